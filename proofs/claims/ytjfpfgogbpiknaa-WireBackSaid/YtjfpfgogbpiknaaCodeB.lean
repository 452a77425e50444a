/- Contracts of wire.Reader's small methods; no condition. -/
import Derived.Test.YtjfpfgogbpiknaaCodeA
namespace Go.Proofs.Ytjfpfgogbpiknaa
open Go.RowKit
set_option linter.unusedVariables false
set_option linter.unusedSimpArgs false

/-- A reader in block g (struct type t): the bytes left, and what was wrong. -/
def Rdr (w : World) (t g : Nat) (bs : List Nat) (k : Int) : Prop :=
  ∃ A c, w.heap[g]? = some (.cells #[.slice A bs.length c, .int .i64 k] t (0, 0)) ∧ Rd w g A c bs

section
variable {w w' : World} {t g : Nat} {bs : List Nat} {k : Int}
theorem Rdr.lt (h : Rdr w t g bs k) : g < w.heap.size := by
  obtain ⟨A, c, hh, _⟩ := h
  rcases Nat.lt_or_ge g w.heap.size with hlt | hge
  · exact hlt
  · rw [Array.getElem?_eq_none hge] at hh; cases hh
theorem Rdr.open_ (h : Rdr w t g bs k) : ∃ A c, Hid (w.heap[g]? = some (.cells #[.slice A bs.length c, .int .i64 k] t (0, 0))) ∧ Hid (Rd w g A c bs) ∧
    w.cell? ⟨g, 0, none⟩ = some (.slice A bs.length c) ∧ w.cell? ⟨g, 1, none⟩ = some (.int .i64 k) ∧ w.frozen? ⟨g, 0, none⟩ = false ∧ w.frozen? ⟨g, 1, none⟩ = false := by
  obtain ⟨A, c, hh, hr⟩ := h
  exact ⟨A, c, hh, hr, by rw [cell_of_row w g 0 _ _ _ hh]; rfl, by rw [cell_of_row w g 1 _ _ _ hh]; rfl, frozen_of_row w g 0 _ _ hh, frozen_of_row w g 1 _ _ hh⟩
theorem Rdr.drewN (h : Rdr w t g bs k) (n : Nat) : Rdr (w.drewN n) t g bs k := h
theorem Rdr.below {B : Nat} (h : Rdr w t g bs k) (hb : Below B w w') (hB : g < B) : Rdr w' t g bs k := by
  obtain ⟨A, c, hh, hr⟩ := h
  exact ⟨A, c, (hb.block g hB).trans hh, hr.below hb (by omega)⟩
theorem Rdr.grown {row : Option Nat} (h : Rdr w t g bs k) (hg : w.grownBy w' row) (hr : ∀ x, row = some x → g < x) : Rdr w' t g bs k := by
  have hlt := h.lt
  obtain ⟨A, c, hh, hrd⟩ := h
  exact ⟨A, c, (hg.block g hlt (fun e => by have := hr _ e.symm; omega)).trans hh, hrd.grown hg (by omega) (fun x hx => by have := hr _ hx; omega)⟩
theorem Rdr.setK (h : Rdr w t g bs k) (k' : Int) : Rdr (w.setCell ⟨g, 1, none⟩ (.int .i64 k')) t g bs k' := by
  obtain ⟨A, c, hh, hr⟩ := h
  exact ⟨A, c, heap_setCell_same w g 1 _ t _ hh, hr.setCell (Nat.le_refl _) _⟩
theorem Rdr.setB (h : Rdr w t g bs k) {A : Option Addr} {c : Nat} {bs' : List Nat} (hr : Rd w g A c bs') : Rdr (w.setCell ⟨g, 0, none⟩ (.slice A bs'.length c)) t g bs' k := by
  obtain ⟨_, _, hh, _⟩ := h
  exact ⟨A, c, heap_setCell_same w g 0 _ t _ hh, hr.setCell (Nat.le_refl _) _⟩
theorem grown_set (w : World) (g i : Nat) (u : Value) : w.grownBy (w.setCell ⟨g, i, none⟩ u) (some g) :=
  ⟨rfl, rfl, rfl, by simp [World.setCell], fun j _ hne => Below.heap_setCell w _ u j (fun e => hne (by rw [e]))⟩
end

theorem ready_yes (g : Nat) (bs : List Nat) (w : World) (h : Rdr w 58 g bs 0) :
    Calls Try.prog 35 #[.pointer (some ⟨g, 0, none⟩)] w fun e w' => e = .returned (.bool true) ∧ w = w' := by
  obtain ⟨A, c, hh, hr, c0, c1, f0, f1⟩ := h.open_
  clear h
  go_enter Try.func35, Try.ntmps35
  go_wp2
  go_ret
  exact ⟨rfl, rfl⟩
theorem ready_no (g : Nat) (bs : List Nat) (k : Int) (w : World) (h : Rdr w 58 g bs k) (hk : k ≠ 0) :
    Calls Try.prog 35 #[.pointer (some ⟨g, 0, none⟩)] w fun e w' => e = .returned (.bool false) ∧ w = w' := by
  obtain ⟨A, c, hh, hr, c0, c1, f0, f1⟩ := h.open_
  clear h
  have hk1 : (k == 0) = false := by simpa using hk
  clear hk
  go_enter Try.func35, Try.ntmps35
  go_wp2
  go_ret
  exact ⟨rfl, rfl⟩
theorem ready_nil (w : World) : Calls Try.prog 35 #[.pointer none] w fun e w' => e = .returned (.bool false) ∧ w = w' := by
  go_enter Try.func35, Try.ntmps35
  go_wp2
  go_ret
  exact ⟨rfl, rfl⟩

theorem fail_yes (g : Nat) (bs : List Nat) (k' : Int) (w : World) (h : Rdr w 58 g bs 0) :
    Calls Try.prog 30 #[.pointer (some ⟨g, 0, none⟩), .int .i64 k'] w fun e w' => e = .returned (.tuple #[]) ∧ w.setCell ⟨g, 1, none⟩ (.int .i64 k') = w' := by
  have h' := Lib.hid h
  obtain ⟨A, c, hh, hr, c0, c1, f0, f1⟩ := h.open_
  clear h
  go_enter Try.func30, Try.ntmps30
  go_wp2_with (go_at_call 35; refine (ready_yes g bs _ h'.out).mono ?_; rintro e w' ⟨rfl, rfl⟩)
  go_end0
  exact ⟨rfl, rfl⟩
theorem fail_no (g : Nat) (bs : List Nat) (k k' : Int) (w : World) (h : Rdr w 58 g bs k) (hk : k ≠ 0) :
    Calls Try.prog 30 #[.pointer (some ⟨g, 0, none⟩), .int .i64 k'] w fun e w' => e = .returned (.tuple #[]) ∧ w = w' := by
  have h' := Lib.hid h
  have hk' := Lib.hid hk
  clear h hk
  go_enter Try.func30, Try.ntmps30
  go_wp2_with (go_at_call 35; refine (ready_no g bs k _ h'.out hk'.out).mono ?_; rintro e w' ⟨rfl, rfl⟩)
  go_end0
  exact ⟨rfl, rfl⟩
theorem fail_nil (k' : Int) (w : World) : Calls Try.prog 30 #[.pointer none, .int .i64 k'] w fun e w' => e = .returned (.tuple #[]) ∧ w = w' := by
  go_enter Try.func30, Try.ntmps30
  go_wp2_with (go_at_call 35; refine (ready_nil _).mono ?_; rintro e w' ⟨rfl, rfl⟩)
  go_end0
  exact ⟨rfl, rfl⟩

/-- What Done answers. -/
def rDone (bs : List Nat) (k : Int) : Int := if k = 0 then (if 0 < bs.length then 3 else 0) else k
theorem done_any (g : Nat) (bs : List Nat) (k r : Int) (w : World) (h : Rdr w 58 g bs k) (hr : r = rDone bs k) :
    Calls Try.prog 14 #[.pointer (some ⟨g, 0, none⟩)] w fun e w' => e = .returned (.int .i64 r) ∧ w = w' := by
  obtain ⟨A, c, hh, hrd, c0, c1, f0, f1⟩ := h.open_
  clear h
  subst hr
  unfold rDone
  by_cases hk : k = 0
  · subst hk
    by_cases hl : 0 < bs.length
    · rw [if_pos rfl, if_pos hl]
      have hli : (0 : Int) < (bs.length : Int) := by omega
      clear hl
      go_enter Try.func14, Try.ntmps14
      go_wp2
      go_ret
      exact ⟨rfl, rfl⟩
    · rw [if_pos rfl, if_neg hl]
      have hli : ¬ (0 : Int) < (bs.length : Int) := by omega
      have hl0 : bs = [] := List.eq_nil_of_length_eq_zero (by omega)
      subst hl0
      clear hl
      go_enter Try.func14, Try.ntmps14
      go_wp2
      go_ret
      exact ⟨rfl, rfl⟩
  · rw [if_neg hk]
    have hk1 : (k == 0) = false := by simpa using hk
    clear hk
    go_enter Try.func14, Try.ntmps14
    go_wp2
    go_ret
    exact ⟨rfl, rfl⟩
theorem done_nil (w : World) : Calls Try.prog 14 #[.pointer none] w fun e w' => e = .returned (.int .i64 17) ∧ w = w' := by
  go_enter Try.func14, Try.ntmps14
  go_wp2
  go_ret
  exact ⟨rfl, rfl⟩

/-- What Left answers. -/
def rLeft (bs : List Nat) (k : Int) : Nat := if k = 0 then bs.length else 0
theorem left_any (g : Nat) (bs : List Nat) (k : Int) (r : Nat) (w : World) (h : Rdr w 58 g bs k) (hr : r = rLeft bs k) :
    Calls Try.prog 17 #[.pointer (some ⟨g, 0, none⟩)] w fun e w' => e = .returned (.int .i64 (r : Int)) ∧ w = w' := by
  have h' := Lib.hid h
  obtain ⟨A, c, hh, hrd, c0, c1, f0, f1⟩ := h.open_
  clear h
  subst hr
  unfold rLeft
  by_cases hk : k = 0
  · subst hk
    rw [if_pos rfl]
    go_enter Try.func17, Try.ntmps17
    go_wp2_with (go_at_call 35; refine (ready_yes g bs _ h'.out).mono ?_; rintro e w' ⟨rfl, rfl⟩)
    go_ret
    exact ⟨rfl, rfl⟩
  · rw [if_neg hk]
    have hk' := Lib.hid hk
    clear hk
    go_enter Try.func17, Try.ntmps17
    go_wp2_with (go_at_call 35; refine (ready_no g bs k _ h'.out hk'.out).mono ?_; rintro e w' ⟨rfl, rfl⟩)
    go_ret
    exact ⟨rfl, rfl⟩
theorem left_nil (w : World) : Calls Try.prog 17 #[.pointer none] w fun e w' => e = .returned (.int .i64 0) ∧ w = w' := by
  go_enter Try.func17, Try.ntmps17
  go_wp2_with (go_at_call 35; refine (ready_nil _).mono ?_; rintro e w' ⟨rfl, rfl⟩)
  go_ret
  exact ⟨rfl, rfl⟩

/-- A new reader. -/
def MakesRdr (w : World) (t : Nat) (bs : List Nat) (e : Ending) (w' : World) : Prop :=
  ∃ g, e = .returned (.pointer (some ⟨g, 0, none⟩)) ∧ Rdr w' t g bs 0 ∧ Below w.heap.size w w' ∧ w.heap.size ≤ g
set_option maxHeartbeats 400000 in
theorem read_any (A : Option Addr) (c : Nat) (xs : List Nat) (w : World) (B : Nat) (h : Rd w B A c xs) (hb : xs.length ≤ 1000000) (hB : B ≤ w.heap.size) :
    Calls Try.prog 12 #[.slice A xs.length c] w (MakesRdr w 58 xs) := by
  have H := Lib.hid h
  clear h
  go_enter Try.func12, Try.ntmps12
  go_wp2_with (go_at_call 34; refine (clone_any A c xs _ B H.out hb hB).mono ?_; rintro e w' ⟨A1, c1, zs, rfl, hz, ho, hbel⟩)
  go_ret
  have hz := hz.out
  subst hz
  exact ⟨_, rfl, ⟨_, _, heap_alloc_new _ _, ho.rd.alloc (Nat.le_refl _) _⟩, hbel.alloc hbel.size _, hbel.size⟩
end Go.Proofs.Ytjfpfgogbpiknaa
