/- Contracts of quorum's votes: Add that refuses, all, Count; no condition. -/
import Derived.Test.YtleclkggdhofmaaCodeB
namespace Go.Proofs.Ytleclkggdhofmaa
open Go.RowKit
set_option linter.unusedVariables false
set_option linter.unusedSimpArgs false

/-- It answers k, and writes nothing that was there. -/
def Says (w : World) (k : Int) (e : Ending) (w' : World) : Prop := e = .returned (.int .i64 k) ∧ Below w.heap.size w w'

theorem add_nil (x : Int) (A : Option Addr) (c n : Nat) (w : World) :
    Calls Try.prog 20 #[.pointer none, .agg #[.int .u64 x, .slice none 0 0, .slice none 0 0], .slice A n c] w (Says w 17) := by
  go_enter Try.func20, Try.ntmps20
  go_wp2_with fail
  go_ret
  exact ⟨rfl, (Below.refl _ _).alloc (Nat.le_refl _) _⟩

theorem Vot.lt {w : World} {g : Nat} {f : Int} {V : Nat → Option (List Nat)} (h : Vot w g f V) : g < w.heap.size := by
  obtain ⟨cs, hh, _⟩ := h
  rcases Nat.lt_or_ge g w.heap.size with hlt | hge
  · exact hlt
  · rw [Array.getElem?_eq_none hge] at hh; cases hh
theorem Vot.below {w w' : World} {g : Nat} {f : Int} {V : Nat → Option (List Nat)} {B : Nat} (h : Vot w g f V) (hb : Below B w w') (hg : g < B) : Vot w' g f V := by
  obtain ⟨cs, hh, r⟩ := h
  exact ⟨cs, (hb.block g hg).trans hh, r⟩

set_option maxHeartbeats 800000 in
theorem add_unknown (g : Nat) (f : Int) (V : Nat → Option (List Nat)) (x : Nat) (A : Option Addr) (c n : Nat) (w : World) (h : Vot w g f V) (hf1 : 1 ≤ f) (hf2 : f ≤ 4) (hx : x = 0 ∨ tm 3 f < (x : Int)) (hx2 : x < 18446744073709551616) :
    Calls Try.prog 20 #[.pointer (some ⟨g, 0, none⟩), .agg #[.int .u64 (x : Int), .slice none 0 0, .slice none 0 0], .slice A n c] w (Says w 15) := by
  have hglt := h.lt
  obtain ⟨cs, hh, hsz, h0, h1, h2, h3⟩ := h
  have hN : tm 3 f ≤ 13 := by unfold tm; rw [if_pos ⟨hf1, hf2⟩]; omega
  have hN0 : 0 ≤ tm 3 f := by unfold tm; rw [if_pos ⟨hf1, hf2⟩]; omega
  have c0 : w.cell? ⟨g, 0, none⟩ = some (.int .i64 f) := by rw [cell_of_row w g 0 _ _ _ hh]; exact h0
  have hgne : ¬ g = w.heap.size := by omega
  have hn := Lib.hid (fun w => n_any f w)
  generalize tm 3 f = N at *
  clear hh h0 h1 h2 h3
  by_cases hx0 : x = 0
  · subst hx0
    clear hx c0
    go_enter Try.func20, Try.ntmps20
    go_wp2_with fail
    go_quiet (fail)
    go_wp2_with fail
    go_ret
    exact ⟨rfl, below_drewN ((Below.refl _ _).alloc (Nat.le_refl _) _) _⟩
  · have t0 : ((x : Int) == 0) = false := beq_eq_false_iff_ne.2 (by omega)
    have t1 : N < (x : Int) := by omega
    clear hx
    go_enter Try.func20, Try.ntmps20
    go_wp2_with fail
    go_quiet ((go_at_call 8; exact Calls.quiet_of_same ((hn.out _).mono fun e w' h => ⟨h.1, h.2.symm⟩)))
    go_wp2_with fail
    go_ret
    exact ⟨rfl, below_drewN ((Below.refl _ _).alloc (Nat.le_refl _) _) _⟩

set_option maxHeartbeats 800000 in
theorem add_voted (g : Nat) (f : Int) (V : Nat → Option (List Nat)) (i : Nat) (A : Option Addr) (c n : Nat) (w : World) (h : Vot w g f V) (hf1 : 1 ≤ f) (hf2 : f ≤ 4) (hi : (i : Int) + 1 ≤ tm 3 f) (u : List Nat) (hV : V i = some u) :
    Calls Try.prog 20 #[.pointer (some ⟨g, 0, none⟩), .agg #[.int .u64 ((i : Int) + 1), .slice none 0 0, .slice none 0 0], .slice A n c] w (Says w 18) := by
  have hglt := h.lt
  obtain ⟨cs, hh, hsz, h0, h1, h2, h3⟩ := h
  have hN : tm 3 f ≤ 13 := by unfold tm; rw [if_pos ⟨hf1, hf2⟩]; omega
  have hib : (i : Int) < 13 := by omega
  have c0 : w.cell? ⟨g, 0, none⟩ = some (.int .i64 f) := by rw [cell_of_row w g 0 _ _ _ hh]; exact h0
  have c1 : w.cell? ⟨g, 1 + i, none⟩ = some (.bool true) := by rw [cell_of_row w g _ _ _ _ hh, h1 i (by omega), hV]; rfl
  have hgne : ¬ g = w.heap.size := by omega
  have t0 : (((i : Int) + 1) == 0) = false := beq_eq_false_iff_ne.2 (by omega)
  have hn := Lib.hid (fun w => n_any f w)
  generalize tm 3 f = N at *
  clear hh h0 h1 h2 h3 hV
  go_enter Try.func20, Try.ntmps20
  go_wp2_with fail
  go_quiet ((go_at_call 8; exact Calls.quiet_of_same ((hn.out _).mono fun e w' h => ⟨h.1, h.2.symm⟩)))
  go_wp2_with fail
  go_quiet (fail)
  go_wp2_with fail
  go_ret
  exact ⟨rfl, below_drewN (below_drewN ((Below.refl _ _).alloc (Nat.le_refl _) _) _) _⟩
end Go.Proofs.Ytleclkggdhofmaa
