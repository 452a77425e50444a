/- The walk of WireOne: bytes that are read as a number are that number's form; no condition. -/
import Derived.Test.YtjfpfgogbpiknaaOpen
namespace Go.Proofs.Ytjfpfgogbpiknaa
open Go.RowKit
set_option linter.unusedVariables false
set_option linter.unusedSimpArgs false

set_option maxHeartbeats 1000000 in
theorem wireOne_walk (A : Option Addr) (c : Nat) (xs : List Nat) (w : World) (h : Rd w w.heap.size A c xs) : Calls Try.prog 3 #[.slice A xs.length c] w (Yes w) := by
  have H := Lib.hid h
  clear h
  have hmax := H.out.max
  unfold maxLen at hmax
  by_cases hl : 1000 < xs.length
  · have hli : (1000 : Int) < (xs.length : Int) := by omega
    go_enter Try.func3, Try.ntmps3
    go_wp2_with fail
    refine (alive_any _).mono ?_
    rintro e w1 ⟨rfl, hb⟩
    go_wp2_with fail
    go_ret
    exact ⟨rfl, hb⟩
  · have hli : ¬ (1000 : Int) < (xs.length : Int) := by omega
    have one := one_of H.out.lt
    have uf := u_facts (k := 0) H.out.lt
    have hr0 := Lib.hid (ruint_any (bs := xs) (k := 0))
    generalize uNum xs 0 = n at *
    generalize uRest xs 0 = bs' at *
    generalize uK xs 0 = k' at *
    generalize hr : rDone bs' k' = r at *
    have HR := Lib.hid hr
    have U := Lib.hid uf
    have ONE := Lib.hid one
    clear hr one uf
    go_enter Try.func3, Try.ntmps3
    go_wp2_with fail
    refine (read_any A c xs _ _ H.out (by omega) (Nat.le_refl _)).mono ?_
    rintro e w1 ⟨g, rfl, hr1, hb1, hge⟩
    have R1 := Lib.hid hr1
    have B1 := Lib.hid hb1
    clear hr1 hb1
    go_wp2_with fail
    refine (hr0.out g _ R1.out (by omega)).mono ?_
    rintro e w2 ⟨rfl, hr2, hg2⟩
    have R2 := Lib.hid hr2
    have B2 := Lib.hid (below_grown_new B1.out hg2 hge)
    clear hr2 hg2
    go_wp2_with fail
    refine (done_any g bs' k' r _ R2.out HR.out.symm).mono ?_
    rintro e w3 ⟨rfl, rfl⟩
    by_cases hz : r = 0
    · have he : enc n = xs := ONE.out.2 hz
      have HE := Lib.hid he
      subst hz
      clear he
      go_wp2_with fail
      refine (uint_any none 0 [] n _ 0 (Rd.nil_ _ _) (by simp) (by omega) U.out.1).mono ?_
      rintro e w4 ⟨A4, c4, zs4, rfl, hz4, ho4, hb4⟩
      have B4 := Lib.hid (bchain B2.out hb4)
      have O4 := Lib.hid ho4
      clear ho4 hb4
      go_wp2_with fail
      refine (same_any A4 c4 zs4 A c xs _ _ _ O4.out.rd (H.out.below B4.out (Nat.le_refl _)) true (by rw [hz4.out, List.nil_append, HE.out]; simp)).mono ?_
      rintro e w5 ⟨rfl, n5, rfl⟩
      go_wp2_with fail
      refine (alive_any _).mono ?_
      rintro e w6 ⟨rfl, hb6⟩
      have B6 := Lib.hid (bchain (below_drewN B4.out n5) hb6)
      clear hb6
      go_wp2_with fail
      go_ret
      exact ⟨rfl, B6.out⟩
    · have hk := ONE.out.1 hz
      have t1 : (r != 0) = true := by simpa using hz
      clear hz
      by_cases hn0 : n = 0
      · subst hn0
        go_wp2_with fail
        refine (alive_any _).mono ?_
        rintro e w6 ⟨rfl, hb6⟩
        have B6 := Lib.hid (bchain B2.out hb6)
        clear hb6
        go_wp2_with fail
        go_ret
        exact ⟨rfl, B6.out⟩
      · have hr3 : r = 3 := by omega
        subst hr3
        have t2 : ((n : Int) == 0) = false := by simp; omega
        clear hk
        go_wp2_with fail
        refine (alive_any _).mono ?_
        rintro e w6 ⟨rfl, hb6⟩
        have B6 := Lib.hid (bchain B2.out hb6)
        clear hb6
        go_wp2_with fail
        go_ret
        exact ⟨rfl, B6.out⟩
end Go.Proofs.Ytjfpfgogbpiknaa
