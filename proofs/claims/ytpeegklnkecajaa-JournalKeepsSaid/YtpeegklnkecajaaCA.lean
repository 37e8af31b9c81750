/-
  Contracts of the journal: what is told, Append, Sync, Size, Open. No condition.
-/
import Derived.Test.YtpeegklnkecajaaC8
import Derived.Test.YtpeegklnkecajaaR1
namespace Go.Proofs.Ytpeegklnkecajaa
open Go.RowKit
abbrev Jn (gj gr : Nat) (br : Bool) : Ent := ⟨gj, 61, [.pointer (some ⟨gr, 0, none⟩), .bool br], 2⟩
def RS.open1 (s : RS) : RS := if (scan s.l).2 < s.l.length then s.cut (scan s.l).2 else s
def RS.open1E (s : RS) : Int := if (scan s.l).2 < s.l.length then s.cutE (scan s.l).2 else 0
def RS.openE (s : RS) : Int := if s.down = true then 11 else if s.open1E ≠ 0 then s.open1E else s.open1.syncE
def RS.openS (s : RS) : RS := if s.down = true then s else if s.open1E ≠ 0 then s.open1 else s.open1.sync
theorem Take.app {e : Ent} : ∀ {R R' : List Ent} (X : List Ent), Take R e R' → Take (X ++ R) e (X ++ R')
  | _, _, [], h => h
  | _, _, _ :: X, h => .there (Take.app X h)
section
variable {w0 : World} {B : Nat} {H R : List Ent} {gj gr : Nat} {br : Bool} {s : RS} {X : List Ent}
set_option maxHeartbeats 8000000
set_option maxRecDepth 100000
theorem told_fn (e : Int) : Fn Try.prog w0 B 36 [.pointer (some ⟨gj, 0, none⟩), .int .i64 e] (Jn gj gr br :: R) (fun v H' => v = .int .i64 e ∧ H' = Jn gj gr (br || decide (e = 11)) :: R) := by
  refine fn_intro Try.func36 rfl (by kernel_rfl) rfl ?_
  cases br
  · by_cases h : e = 11
    · rw [decide_eq_true h]
      subst h
      repeat (first | refine go_ ?_ | refine bx_ (fun _ => ?_))
      exact fin1I rfl rfl ⟨rfl, rfl⟩
    · rw [decide_eq_false h]
      repeat (first | refine go_ ?_ | refine bx_ (fun _ => ?_))
      exact fin1I rfl rfl ⟨rfl, rfl⟩
  · repeat (first | refine go_ ?_ | refine bx_ (fun _ => ?_))
    exact fin1I rfl rfl ⟨rfl, rfl⟩
theorem jsize_fn (h : Rl gr s X) : Fn Try.prog w0 B 22 [.pointer (some ⟨gj, 0, none⟩)] (X ++ (Jn gj gr br :: R)) (fun v H' => v = .int .i64 (s.l.length : Int) ∧ H' = X ++ (Jn gj gr br :: R)) := by
  have S := size_r (w0 := w0) (B := B) (R := Jn gj gr br :: R) h
  refine fn_intro Try.func22 rfl (by kernel_rfl) rfl ?_
  have ht : Take (X ++ (Jn gj gr br :: R)) (Jn gj gr br) (X ++ R) := Take.app X .here
  repeat (first | refine hl_load1 rfl ht rfl rfl ?_ | refine go1_ ?_ | refine bx_ (fun _ => ?_) | refine hl_callv rfl rfl (S) ?_)
  exact fin1I rfl rfl ⟨rfl, rfl⟩
def jE (br : Bool) (e : Int) : Int := if br = true then 60 else e
theorem jsync_fn (h : Rl gr s X) : Fn Try.prog w0 B 20 [.pointer (some ⟨gj, 0, none⟩)] (X ++ (Jn gj gr br :: R)) (fun v H' => v = .int .i64 (jE br s.syncE) ∧ ∃ X', H' = X' ++ (Jn gj gr (br || decide (s.syncE = 11)) :: R) ∧ Rl gr (if br = true then s else s.sync) X') := by
  refine fn_intro Try.func20 rfl (by kernel_rfl) rfl ?_
  have ht : Take (X ++ (Jn gj gr br :: R)) (Jn gj gr br) (X ++ R) := Take.app X .here
  cases br
  · repeat (first | refine hl_load1 rfl ht rfl rfl ?_ | refine go1_ ?_ | refine bx_ (fun _ => ?_))
    refine hl_call rfl rfl (sync_r h) (fun v M hv => ?_)
    obtain ⟨rfl, X1, rfl, h1⟩ := hv
    refine HL.perm ?_ List.perm_middle
    repeat (first | refine go_ ?_ | refine bx_ (fun _ => ?_))
    refine hl_call rfl rfl (told_fn _) (fun v M hv => ?_)
    obtain ⟨rfl, rfl⟩ := hv
    repeat (first | refine go_ ?_ | refine bx_ (fun _ => ?_))
    exact fin1I rfl rfl ⟨rfl, X1, rfl, h1⟩ (Imp.perm List.perm_middle.symm (Imp.refl _))
  · repeat (first | refine hl_load1 rfl ht rfl rfl ?_ | refine go1_ ?_ | refine bx_ (fun _ => ?_))
    exact fin1I rfl rfl ⟨rfl, X, rfl, h⟩
theorem jappend_fn (h : Rl gr s X) {a : Option Addr} {len cap : Nat} {p : List UInt8} (hp : BytR w0 B (X ++ (Jn gj gr br :: R)) a len cap p) (hn : len ≤ 8388608) : Fn Try.prog w0 B 19 [.pointer (some ⟨gj, 0, none⟩), .slice a len cap] (X ++ (Jn gj gr br :: R)) (fun v H' => v = .int .i64 (jE br (s.appendE (recB p))) ∧ ∃ X', H' = X' ++ (Jn gj gr (br || decide (s.appendE (recB p) = 11)) :: R) ∧ Rl gr (if br = true then s else s.append (recB p)) X') := by
  refine fn_intro Try.func19 rfl (by kernel_rfl) rfl ?_
  have ht : Take (X ++ (Jn gj gr br :: R)) (Jn gj gr br) (X ++ R) := Take.app X .here
  have he := hp.eq
  cases br
  · repeat (first | refine hl_load1 rfl ht rfl rfl ?_ | refine go1_ ?_ | refine bx_ (fun _ => ?_))
    refine hl_call rfl rfl (record_fn hp hn) (fun v M o => ?_)
    obtain ⟨sv, rfl, o⟩ := o
    obtain ⟨a1, c1, rfl, _, _⟩ := o.form
    obtain ⟨Xr, hpm, hr⟩ := o.permE
    refine HL.perm ?_ (hpm.trans (app_swap Xr X _))
    have b1 : BytR w0 B (X ++ (Xr ++ (Jn gj gr false :: R))) a1 (len + 8) c1 (recB p) := (BytR.own (hr _)).imp (Imp.tail X _)
    have ht1 : Take (X ++ (Xr ++ (Jn gj gr false :: R))) (Jn gj gr false) (X ++ (Xr ++ R)) := Take.app X (Take.app Xr .here)
    repeat (first | refine hl_load1 rfl ht1 rfl rfl ?_ | refine go1_ ?_ | refine bx_ (fun _ => ?_))
    refine hl_call rfl rfl (append_r h b1.eq (by omega) b1.rd) (fun v M hv => ?_)
    obtain ⟨rfl, X1, rfl, h1⟩ := hv
    refine HL.perm ?_ (Take.app X1 (Take.app Xr (.here (e := Jn gj gr false) (H := R)))).perm
    repeat (first | refine go_ ?_ | refine bx_ (fun _ => ?_))
    refine hl_call rfl rfl (told_fn _) (fun v M hv => ?_)
    obtain ⟨rfl, rfl⟩ := hv
    repeat (first | refine go_ ?_ | refine bx_ (fun _ => ?_))
    refine fin1I rfl rfl ⟨rfl, X1, rfl, h1⟩ (Imp.perm (Take.app X1 (Take.app Xr .here)).perm.symm (Imp.sub ?_))
    exact List.Sublist.append (List.Sublist.refl _) (List.sublist_append_right _ _)
  · repeat (first | refine hl_load1 rfl ht rfl rfl ?_ | refine go1_ ?_ | refine bx_ (fun _ => ?_))
    exact fin1I rfl rfl ⟨rfl, X, rfl, h⟩
theorem open_fn (h : Rl gr s X) : Fn Try.prog w0 B 17 [.pointer (some ⟨gr, 0, none⟩)] (X ++ R) (fun v H' =>
    (s.openE ≠ 0 ∧ v = .tuple #[.pointer none, .slice none 0 0, .int .i64 s.openE] ∧ ∃ X', H' = X' ++ R ∧ Rl gr s.openS X') ∨
    (s.openE = 0 ∧ ∃ gj sv ps Xo Zc X', v = .tuple #[.pointer (some ⟨gj, 0, none⟩), sv, .int .i64 0] ∧ H' = X' ++ (Jn gj gr false :: (Xo ++ (Zc ++ R))) ∧ ps.map Part.bs = (scan s.l).1 ∧ PMade w0 B sv ps Xo Zc ∧ Rl gr s.openS X')) := by
  have S := size_r (w0 := w0) (B := B) (R := R) h
  obtain ⟨w1, w2, w3, w4, w5⟩ := h.1
  refine fn_intro Try.func17 rfl (by kernel_rfl) rfl ?_
  by_cases hd : s.down = true
  · have N := read_n (w0 := w0) (B := B) (R := R) h 0 (s.l.length : Int) (by omega) (by omega) (.inl hd)
    rw [if_pos hd] at N
    repeat (first | refine go_ ?_ | refine bx_ (fun _ => ?_) | refine hl_callv rfl rfl (S) ?_ | refine hl_callv rfl rfl (N) ?_)
    have he : s.openE = 11 := by unfold RS.openE; rw [if_pos hd]
    refine fin3 (v := .pointer none) (v2 := .slice none 0 0) (v3 := .int .i64 11) rfl rfl rfl rfl (.inl ⟨by rw [he]; decide, by rw [he], X, rfl, ?_⟩)
    unfold RS.openS
    rw [if_pos hd]
    exact h
  have hd' : s.down = false := by simpa using hd
  repeat (first | refine go_ ?_ | refine bx_ (fun _ => ?_) | refine hl_callv rfl rfl (S) ?_)
  refine hl_call rfl rfl (read_r h 0 s.l.length hd' (by omega)) (fun v M o => ?_)
  obtain ⟨sv, rfl, o⟩ := o
  rw [List.drop_zero, List.take_length] at o
  obtain ⟨a1, c1, rfl, _, _⟩ := o.form
  have b1 := BytR.own (w0 := w0) (B := B) o
  obtain ⟨Xb, hpb, _⟩ := o.permE
  repeat (first | refine go_ ?_ | refine bx_ (fun _ => ?_))
  refine hl_call rfl rfl (scan_fn b1 (by omega)) (fun v M2 o2 => ?_)
  obtain ⟨sv2, ps, Xo, Zc, rfl, rfl, hm, hpm⟩ := o2
  obtain ⟨a2, c2, rfl, _, _⟩ := hpm.read
  have hi : Imp (Xo ++ (Zc ++ M)) (X ++ (Xo ++ (Zc ++ R))) := by
    refine Imp.perm (List.Perm.append (List.Perm.refl Xo) (List.Perm.append (List.Perm.refl Zc) (hpb.trans (app_swap Xb X R)))) ?_
    refine Imp.perm (List.Perm.append (List.Perm.refl Xo) (app_swap Zc X _)) (Imp.perm (app_swap Xo X _) (Imp.sub ?_))
    exact List.Sublist.append (List.Sublist.refl _) (List.Sublist.append (List.Sublist.refl _) (List.Sublist.append (List.Sublist.refl _) (List.sublist_append_right _ _)))
  refine HL.imp ?_ hi
  have hE : s.openE = if s.open1E ≠ 0 then s.open1E else s.open1.syncE := by unfold RS.openE; rw [if_neg hd]
  have hS : s.openS = if s.open1E ≠ 0 then s.open1 else s.open1.sync := by unfold RS.openS; rw [if_neg hd]
  obtain ⟨en, hen⟩ : ∃ en, en = (scan s.l).2 := ⟨_, rfl⟩
  rw [← hen]
  by_cases hlt : en < s.l.length
  · have e1 : s.open1E = s.cutE en := by unfold RS.open1E; rw [← hen, if_pos hlt]
    have e2 : s.open1 = s.cut en := by unfold RS.open1; rw [← hen, if_pos hlt]
    repeat (first | refine go_ ?_ | refine bx_ (fun _ => ?_))
    refine hl_call rfl rfl (cut_r h (en : Int) (by omega)) (fun v M hv => ?_)
    obtain ⟨rfl, X1, rfl, h1⟩ := hv
    rw [← e1]
    rw [← e2] at h1
    by_cases h0 : s.open1E = 0
    · rw [if_neg (by simp [h0])] at hE hS
      rw [h0]
      repeat (first | refine go_ ?_ | refine bx_ (fun _ => ?_))
      refine hl_call rfl rfl (sync_r h1) (fun v M hv => ?_)
      obtain ⟨rfl, X2, rfl, h2⟩ := hv
      rw [← hS] at h2
      rw [← hE]
      by_cases h00 : s.openE = 0
      · rw [h00]
        repeat (first | refine go_ ?_ | refine bx_ (fun _ => ?_))
        rename_i gj
        refine fin3 (v := .pointer (some ⟨gj, 0, none⟩)) (v2 := .slice a2 ps.length c2) (v3 := .int .i64 0) rfl rfl rfl rfl (.inr ⟨rfl, gj, _, ps, Xo, Zc, X2, rfl, rfl, hm, hpm, h2⟩) (Imp.perm List.perm_middle.symm (Imp.refl _))
      · repeat (first | refine go_ ?_ | refine bx_ (fun _ => ?_))
        refine fin3 (v := .pointer none) (v2 := .slice none 0 0) (v3 := .int .i64 s.openE) rfl rfl rfl rfl (.inl ⟨h00, rfl, X2, rfl, h2⟩) (Imp.sub ?_)
        exact List.Sublist.append (List.Sublist.refl _) ((List.sublist_append_right _ _).trans (List.sublist_append_right _ _))
    · rw [if_pos h0] at hE hS
      rw [← hS] at h1
      rw [← hE] at h0 ⊢
      repeat (first | refine go_ ?_ | refine bx_ (fun _ => ?_))
      refine fin3 (v := .pointer none) (v2 := .slice none 0 0) (v3 := .int .i64 s.openE) rfl rfl rfl rfl (.inl ⟨h0, rfl, X1, rfl, h1⟩) (Imp.sub ?_)
      exact List.Sublist.append (List.Sublist.refl _) ((List.sublist_append_right _ _).trans (List.sublist_append_right _ _))
  · have e1 : s.open1E = 0 := by unfold RS.open1E; rw [← hen, if_neg hlt]
    have e2 : s.open1 = s := by unfold RS.open1; rw [← hen, if_neg hlt]
    rw [e1, if_neg (by simp), e2] at hE hS
    repeat (first | refine go_ ?_ | refine bx_ (fun _ => ?_))
    refine hl_call rfl rfl (sync_r h) (fun v M hv => ?_)
    obtain ⟨rfl, X2, rfl, h2⟩ := hv
    rw [← hS] at h2
    rw [← hE]
    by_cases h00 : s.openE = 0
    · rw [h00]
      repeat (first | refine go_ ?_ | refine bx_ (fun _ => ?_))
      rename_i gj
      refine fin3 (v := .pointer (some ⟨gj, 0, none⟩)) (v2 := .slice a2 ps.length c2) (v3 := .int .i64 0) rfl rfl rfl rfl (.inr ⟨rfl, gj, _, ps, Xo, Zc, X2, rfl, rfl, hm, hpm, h2⟩) (Imp.perm List.perm_middle.symm (Imp.refl _))
    · repeat (first | refine go_ ?_ | refine bx_ (fun _ => ?_))
      refine fin3 (v := .pointer none) (v2 := .slice none 0 0) (v3 := .int .i64 s.openE) rfl rfl rfl rfl (.inl ⟨h00, rfl, X2, rfl, h2⟩) (Imp.sub ?_)
      exact List.Sublist.append (List.Sublist.refl _) ((List.sublist_append_right _ _).trans (List.sublist_append_right _ _))
end
end Go.Proofs.Ytpeegklnkecajaa
