/- Contracts of wire.Bytes, wire.Bool and of the chapter's examples (alive); no condition. -/
import Derived.Test.YtjfpfgogbpiknaaCodeD
namespace Go.Proofs.Ytjfpfgogbpiknaa
open Go.RowKit
set_option linter.unusedVariables false
set_option linter.unusedSimpArgs false

set_option maxHeartbeats 400000 in
theorem bytes_any (A : Option Addr) (c : Nat) (xs : List Nat) (A2 : Option Addr) (c2 : Nat) (ys : List Nat) (w : World) (B B2 : Nat) (h : Rd w B A c xs) (h2 : Rd w B2 A2 c2 ys) (hb : xs.length ≤ 400000) (hb2 : ys.length ≤ 400000) (hB : B ≤ w.heap.size) (hB2 : B2 ≤ w.heap.size) :
    Calls Try.prog 19 #[.slice A xs.length c, .slice A2 ys.length c2] w (Makes w (xs ++ enc ys.length ++ ys)) := by
  have H := Lib.hid h
  have H2 := Lib.hid h2
  clear h h2
  have hT : (xs ++ enc ys.length).length ≤ 500000 := by rw [List.length_append]; have := enc_len (n := ys.length) (by omega); omega
  have hu := Lib.hid (uint_any A c xs ys.length w B H.out (by omega) hB (by omega))
  generalize hts : xs ++ enc ys.length = ts at *
  clear hts
  go_enter Try.func19, Try.ntmps19
  go_wp2_with fail
  refine hu.out.mono ?_
  rintro e w1 ⟨A1, c1, zs, rfl, hz, ho, hbel⟩
  have hzl : zs.length ≤ 500000 := by rw [hz.out]; exact hT
  go_wp2_with (at_builtin; refine wpList_app _ rfl _ _ 22 rfl w.heap.size 5 Try.underlying22 info5 rfl rfl ho rfl rfl (H2.out.below hbel hB2) (by omega) hbel.size ?_)
  intro A3 c3 zs3 w3 hz3 ho3 hg3
  have hbel3 := grown_to_below hbel hg3 ho (Nat.le_refl _)
  go_wp2
  go_ret
  exact ⟨A3, c3, zs3, rfl, by show _ = _; rw [hz3.out, hz.out], ho3, hbel3⟩

theorem bool_any (A : Option Addr) (c : Nat) (xs : List Nat) (b : Bool) (w : World) (B : Nat) (h : Rd w B A c xs) (hb : xs.length ≤ 800000) (hB : B ≤ w.heap.size) :
    Calls Try.prog 21 #[.slice A xs.length c, .bool b] w (Makes w (xs ++ [if b then 1 else 0])) := by
  cases b
  · have hu := Lib.hid (uint_any A c xs 0 w B h (by omega) hB (by omega))
    rw [enc_small (by omega)] at hu
    clear h
    go_enter Try.func21, Try.ntmps21
    go_wp2_with fail
    refine hu.out.mono ?_
    rintro e w1 ⟨A1, c1, zs, rfl, hz, ho, hbel⟩
    go_wp2
    go_ret
    exact ⟨A1, c1, zs, rfl, hz, ho, hbel⟩
  · have hu := Lib.hid (uint_any A c xs 1 w B h (by omega) hB (by omega))
    rw [enc_small (by omega)] at hu
    clear h
    go_enter Try.func21, Try.ntmps21
    go_wp2_with fail
    refine hu.out.mono ?_
    rintro e w1 ⟨A1, c1, zs, rfl, hz, ho, hbel⟩
    go_wp2
    go_ret
    exact ⟨A1, c1, zs, rfl, hz, ho, hbel⟩

/-- It returns true, and writes nothing that was there. -/
def Yes (w : World) (e : Ending) (w' : World) : Prop := e = .returned (.bool true) ∧ Below w.heap.size w w'

theorem enc300 : enc 300 = [172, 2] := by rw [enc_big (by omega), enc_small (by omega)]
theorem u300 : uNum [172, 2] 0 = 300 ∧ uRest [172, 2] 0 = [] ∧ uK [172, 2] 0 = 0 := by
  unfold uNum uRest uK
  simp [dec]
theorem below_drewN {B : Nat} {a w : World} (h : Below B a w) (n : Nat) : Below B a (w.drewN n) := ⟨h.os, h.tape, h.output, h.size, h.block⟩
theorem below_grown_new {W w w' : World} {g : Nat} (h : Below W.heap.size W w) (hg : w.grownBy w' (some g)) (hgb : W.heap.size ≤ g) : Below W.heap.size W w' :=
  h.grown hg h.size fun k hk => by injection hk with hk; omega

theorem bchain {W X Y : World} (h : Below W.heap.size W X) (hb : Below X.heap.size X Y) : Below W.heap.size W Y := h.trans (hb.mono h.size)

set_option maxHeartbeats 1000000 in
theorem alive_any (w : World) : Calls Try.prog 11 #[] w (Yes w) := by
  go_enter Try.func11, Try.ntmps11
  go_wp2_with fail
  refine (read_any _ 2 [172, 2] _ (w.heap.size + 1) (Rd.two w 5 172 2 (by omega) (by omega)) (by simp) (by simp)).mono ?_
  rintro e w1 ⟨g, rfl, hr, hbel, hge⟩
  have B1 := Lib.hid (bchain ((Below.refl w.heap.size w).alloc (Nat.le_refl _) _) hbel)
  have R1 := Lib.hid hr
  clear hr hbel
  go_wp2_with fail
  refine (uint_any none 0 [] 300 _ 0 (Rd.nil_ _ _) (by simp) (by omega) (by omega)).mono ?_
  rw [enc300]
  rintro e w2 ⟨A2, c2, zs2, rfl, hz2, ho2, hbel2⟩
  have B2 := Lib.hid (bchain B1.out hbel2)
  have R2 := Lib.hid (R1.out.below hbel2 R1.out.lt)
  have O2 := Lib.hid ho2
  clear ho2 hbel2
  go_wp2_with fail
  refine (same_any A2 c2 zs2 _ 2 [172, 2] _ _ _ (O2.out.rd.alloc (Nat.le_refl _) _) (Rd.two w2 5 172 2 (by omega) (by omega)) true (by rw [hz2.out]; rfl)).mono ?_
  rintro e w3 ⟨rfl, n3, rfl⟩
  go_wp2_with fail
  refine (uint_any none 0 [] 0 _ 0 (Rd.nil_ _ _) (by simp) (by omega) (by omega)).mono ?_
  rw [enc_small (n := 0) (by omega)]
  rintro e w4 ⟨A4, c4, zs4, rfl, hz4, ho4, hbel4⟩
  have B4 := Lib.hid (bchain (below_drewN (B2.out.alloc B2.out.size _) n3) hbel4)
  have R4 := Lib.hid ((R2.out.below ((Below.refl w2.heap.size w2).alloc (Nat.le_refl _) _) R2.out.lt).drewN n3 |>.below hbel4 (by have := R2.out.lt; simp; omega))
  have O4 := Lib.hid ho4
  clear ho4 hbel4
  go_wp2_with fail
  refine (same_any A4 c4 zs4 _ 1 [0] _ _ _ (O4.out.rd.alloc (Nat.le_refl _) _) (Rd.one w4 5 0 (by omega)) true (by rw [hz4.out]; rfl)).mono ?_
  rintro e w5 ⟨rfl, n5, rfl⟩
  have B5 := Lib.hid (below_drewN (B4.out.alloc B4.out.size (.cells #[.int .u8 ((0 : Nat) : Int)] 5)) n5)
  have R5 := Lib.hid ((R4.out.below ((Below.refl w4.heap.size w4).alloc (Nat.le_refl _) (.cells #[.int .u8 ((0 : Nat) : Int)] 5)) R4.out.lt).drewN n5)
  go_wp2_with fail
  refine (ruint_any g [172, 2] 0 _ R5.out (by simp)).mono ?_
  rw [u300.1, u300.2.1, u300.2.2]
  rintro e w6 ⟨rfl, hr6, hg6⟩
  have B6 := Lib.hid (below_grown_new B5.out hg6 (by simp at hge; omega))
  have R6 := Lib.hid hr6
  clear hr6 hg6
  go_wp2_with fail
  refine (done_any g [] 0 0 _ R6.out (by rfl)).mono ?_
  rintro e w7 ⟨rfl, rfl⟩
  go_wp2_with fail
  go_ret
  exact ⟨rfl, B6.out⟩
end Go.Proofs.Ytjfpfgogbpiknaa
