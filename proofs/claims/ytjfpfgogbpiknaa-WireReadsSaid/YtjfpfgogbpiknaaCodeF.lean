/- Contracts of the reference's Uint, Bytes, Bool; no condition. -/
import Derived.Test.YtjfpfgogbpiknaaOpen
namespace Go.Proofs.Ytjfpfgogbpiknaa
open Go.RowKit
set_option linter.unusedVariables false
set_option linter.unusedSimpArgs false

set_option maxHeartbeats 800000 in
theorem refUint_any (A : Option Addr) (c : Nat) (xs : List Nat) (n : Nat) (w : World) (B : Nat) (h : Rd w B A c xs) (hb : xs.length ≤ 900000) (hB : B ≤ w.heap.size) (hn : n < 18446744073709551616) :
    Calls Try.prog 18 #[.slice A xs.length c, .int .u64 (n : Int)] w (Makes w (xs ++ enc n)) := by
  have H := Lib.hid h
  clear h
  have hT : (xs ++ enc n).length ≤ 1000000 := by rw [List.length_append]; have := enc_len hn; omega
  generalize hts : xs ++ enc n = ts at *
  have HT := Lib.hid hts
  clear hts
  go_enter Try.func18, Try.ntmps18
  go_wp2_with (at_builtin; refine wpList_app _ rfl _ _ 22 rfl w.heap.size 5 Try.underlying22 info5 rfl rfl (Own.empty _ _ _ (Nat.le_refl _)) rfl rfl (H.out.alloc hB _) (by simp; omega) (by simp) ?_)
  intro A1 c1 zs1 w1 hz1 ho1 hg1
  have hbel1 := grown_to_below ((Below.refl w.heap.size w).alloc (Nat.le_refl _) _) hg1 (Own.empty w w.heap.size 5 (Nat.le_refl _)) (Nat.le_refl _)
  have HZ : Hid (zs1 ++ enc n = ts) := by show _ = _; rw [hz1.out]; exact HT.out
  clear hg1 hz1
  go_wp2
  go_loopw [0, 1] (fun b m wr => ∃ (A' : Option Addr) (c' : Nat) (zs : List Nat) (k : Nat), b = .slice A' zs.length c' ∧ m = .int .u64 (k : Int) ∧ Own wr w.heap.size 5 A' c' zs ∧ Below w.heap.size w wr ∧ Hid (zs ++ enc k = ts) ∧ k < 18446744073709551616) (fun _ m _ => (intOf m).toNat)
  case atStart => exact ⟨A1, c1, zs1, n, rfl, rfl, ho1, hbel1, HZ, hn⟩
  case round =>
    obtain ⟨A', c', zs, m, rfl, rfl, ho, hbel, hz, hm⟩ := hrel
    have hzl := encJ_len hz hm hT
    by_cases hs : m < 128
    · have t1 : ¬ (128 : Int) ≤ (m : Int) := by omega
      have e1 : (m : Int) % 256 = (m : Int) := by omega
      go_wp2_with (at_builtin; refine wpList_app _ rfl _ _ 22 rfl w.heap.size 5 Try.underlying22 info5 rfl rfl (ho.alloc _) rfl rfl (Rd.one _ _ m (by omega)) (by simp; omega) (by have := hbel.size; simp; omega) ?_)
      intro A2 c2 zs2 w2 hz2 ho2 hg2
      have hbel2 := grown_to_below (hbel.alloc hbel.size _) hg2 (ho.alloc _) (Nat.le_refl _)
      go_wp2
      go_ret
      exact ⟨A2, c2, zs2, rfl, by show _ = _; rw [hz2.out, ← hz.out, enc_small hs], ho2, hbel2⟩
    · have t1 : (128 : Int) ≤ (m : Int) := by omega
      obtain ⟨x, e1, hx, hxb⟩ : ∃ x : Nat, (m : Int) % 128 + 128 = (x : Int) ∧ Hid (x = m % 128 + 128) ∧ x < 256 := ⟨m % 128 + 128, by omega, rfl, by omega⟩
      go_wp2_with (at_builtin; refine wpList_app _ rfl _ _ 22 rfl w.heap.size 5 Try.underlying22 info5 rfl rfl (ho.alloc _) rfl rfl (Rd.one _ _ x hxb) (by simp; omega) (by have := hbel.size; simp; omega) ?_)
      intro A2 c2 zs2 w2 hz2 ho2 hg2
      have hbel2 := grown_to_below (hbel.alloc hbel.size _) hg2 (ho.alloc _) (Nat.le_refl _)
      go_wp2
      go_roundw
      case rel => exact ⟨A2, c2, zs2, m / 128, rfl, by go_num, ho2, hbel2, by show _ = _; rw [hz2.out, ← hz.out, enc_big (n := m) (by omega), hx.out]; simp, by omega⟩
      case measure => simp [intOf]; omega
set_option maxHeartbeats 400000 in
theorem refBytes_any (A : Option Addr) (c : Nat) (xs : List Nat) (A2 : Option Addr) (c2 : Nat) (ys : List Nat) (w : World) (B B2 : Nat) (h : Rd w B A c xs) (h2 : Rd w B2 A2 c2 ys) (hb : xs.length ≤ 400000) (hb2 : ys.length ≤ 400000) (hB : B ≤ w.heap.size) (hB2 : B2 ≤ w.heap.size) :
    Calls Try.prog 20 #[.slice A xs.length c, .slice A2 ys.length c2] w (Makes w (xs ++ enc ys.length ++ ys)) := by
  have H := Lib.hid h
  have H2 := Lib.hid h2
  clear h h2
  have hT : (xs ++ enc ys.length).length ≤ 500000 := by rw [List.length_append]; have := enc_len (n := ys.length) (by omega); omega
  have hu := Lib.hid (refUint_any A c xs ys.length w B H.out (by omega) hB (by omega))
  generalize hts : xs ++ enc ys.length = ts at *
  clear hts
  go_enter Try.func20, Try.ntmps20
  go_wp2_with fail
  refine hu.out.mono ?_
  rintro e w1 ⟨A1, c1, zs, rfl, hz, ho, hbel⟩
  have hzl : zs.length ≤ 500000 := by rw [hz.out]; exact hT
  go_wp2_with (at_builtin; refine wpList_app _ rfl _ _ 22 rfl w.heap.size 5 Try.underlying22 info5 rfl rfl ho rfl rfl (H2.out.below hbel hB2) (by omega) hbel.size ?_)
  intro A3 c3 zs3 w3 hz3 ho3 hg3
  have hbel3 := grown_to_below hbel hg3 ho (Nat.le_refl _)
  go_wp2
  go_ret
  exact ⟨A3, c3, zs3, rfl, by show _ = _; rw [hz3.out, hz.out], ho3, hbel3⟩


set_option maxHeartbeats 800000 in
theorem refBool_any (A : Option Addr) (c : Nat) (xs : List Nat) (b : Bool) (w : World) (B : Nat) (h : Rd w B A c xs) (hb : xs.length ≤ 900000) (hB : B ≤ w.heap.size) :
    Calls Try.prog 22 #[.slice A xs.length c, .bool b] w (Makes w (xs ++ [if b then 1 else 0])) := by
  have H := Lib.hid h
  clear h
  cases b
  all_goals
    go_enter Try.func22, Try.ntmps22
    go_wp2_with (at_builtin; refine wpList_app _ rfl _ _ 22 rfl w.heap.size 5 Try.underlying22 info5 rfl rfl (Own.empty _ _ _ (Nat.le_refl _)) rfl rfl (H.out.alloc hB _) (by simp; omega) (by simp) ?_)
    intro A1 c1 zs1 w1 hz1 ho1 hg1
    have hbel1 := grown_to_below ((Below.refl w.heap.size w).alloc (Nat.le_refl _) _) hg1 (Own.empty w w.heap.size 5 (Nat.le_refl _)) (Nat.le_refl _)
    have hzl : zs1.length ≤ 900000 := by rw [hz1.out]; exact hb
    have HZ : Hid (zs1 = xs) := hz1
    clear hg1 hz1
    first
    | (go_wp2_with (at_builtin; refine wpList_app _ rfl _ _ 22 rfl w.heap.size 5 Try.underlying22 info5 rfl rfl (ho1.alloc _) rfl rfl (Rd.one _ _ 0 (by omega)) (by simp; omega) (by have := hbel1.size; simp; omega) ?_)
       intro A2 c2 zs2 w2 hz2 ho2 hg2)
    | (go_wp2_with (at_builtin; refine wpList_app _ rfl _ _ 22 rfl w.heap.size 5 Try.underlying22 info5 rfl rfl (ho1.alloc _) rfl rfl (Rd.one _ _ 1 (by omega)) (by simp; omega) (by have := hbel1.size; simp; omega) ?_)
       intro A2 c2 zs2 w2 hz2 ho2 hg2)
    have hbel2 := grown_to_below (hbel1.alloc hbel1.size _) hg2 (ho1.alloc _) (Nat.le_refl _)
    go_wp2
    go_ret
    exact ⟨A2, c2, zs2, rfl, by show _ = _; rw [hz2.out, HZ.out], ho2, hbel2⟩

/-! ### WireForms -/
set_option maxHeartbeats 2000000 in
theorem wireForms_walk (A : Option Addr) (c : Nat) (xs : List Nat) (A2 : Option Addr) (c2 : Nat) (ys : List Nat) (n : Nat) (b : Bool) (w : World) (h : Rd w w.heap.size A c xs) (h2 : Rd w w.heap.size A2 c2 ys) (hn : n < 18446744073709551616) :
    Calls Try.prog 6 #[.slice A xs.length c, .slice A2 ys.length c2, .int .u64 (n : Int), .bool b] w (Yes w) := by
  have H := Lib.hid h
  have H2 := Lib.hid h2
  clear h h2
  by_cases hl : 10000 < xs.length ∨ 10000 < ys.length
  · by_cases hl1 : 10000 < xs.length
    · have hli : (10000 : Int) < (xs.length : Int) := by omega
      clear hl
      go_enter Try.func6, Try.ntmps6
      go_wp2_with fail
      refine (alive_any _).mono ?_
      rintro e w1 ⟨rfl, hb⟩
      go_wp2_with fail
      go_ret
      exact ⟨rfl, hb⟩
    · have hli : ¬ (10000 : Int) < (xs.length : Int) := by omega
      have hlj : (10000 : Int) < (ys.length : Int) := by omega
      clear hl
      go_enter Try.func6, Try.ntmps6
      go_wp2_with fail
      refine (alive_any _).mono ?_
      rintro e w1 ⟨rfl, hb⟩
      go_wp2_with fail
      go_ret
      exact ⟨rfl, hb⟩
  · have hli : ¬ (10000 : Int) < (xs.length : Int) := by omega
    have hlj : ¬ (10000 : Int) < (ys.length : Int) := by omega
    clear hl
    go_enter Try.func6, Try.ntmps6
    go_wp2_with fail
    refine (uint_any A c xs n _ _ H.out (by omega) (Nat.le_refl _) hn).mono ?_
    rintro e w1 ⟨A1, c1, zs1, rfl, hz1, ho1, hb1⟩
    have B1 := Lib.hid hb1
    have O1 := Lib.hid ho1
    clear hb1 ho1
    go_wp2_with fail
    refine (refUint_any A c xs n _ _ (H.out.below B1.out (Nat.le_refl _)) (by omega) B1.out.size hn).mono ?_
    rintro e w2 ⟨A3, c3, zs3, rfl, hz3, ho3, hb3⟩
    have B3 := Lib.hid (bchain B1.out hb3)
    have O13 := Lib.hid (O1.out.below hb3)
    have O3 := Lib.hid ho3
    clear hb3 ho3 O1 B1
    go_wp2_with fail
    refine (same_any A1 c1 zs1 A3 c3 zs3 _ _ _ O13.out.rd O3.out.rd true (by rw [hz1.out, hz3.out]; simp)).mono ?_
    rintro e w4 ⟨rfl, n4, rfl⟩
    have B4 := Lib.hid (below_drewN B3.out n4)
    clear O13 O3 hz1 hz3
    go_wp2_with fail
    refine (bytes_any A c xs A2 c2 ys _ _ _ (H.out.below B4.out (Nat.le_refl _)) (H2.out.below B4.out (Nat.le_refl _)) (by omega) (by omega) B4.out.size B4.out.size).mono ?_
    rintro e w5 ⟨A5, c5, zs5, rfl, hz5, ho5, hb5⟩
    have B5 := Lib.hid (bchain B4.out hb5)
    have O5 := Lib.hid ho5
    clear hb5 ho5
    go_wp2_with fail
    refine (refBytes_any A c xs A2 c2 ys _ _ _ (H.out.below B5.out (Nat.le_refl _)) (H2.out.below B5.out (Nat.le_refl _)) (by omega) (by omega) B5.out.size B5.out.size).mono ?_
    rintro e w6 ⟨A6, c6, zs6, rfl, hz6, ho6, hb6⟩
    have B6 := Lib.hid (bchain B5.out hb6)
    have O56 := Lib.hid (O5.out.below hb6)
    have O6 := Lib.hid ho6
    clear hb6 ho6 O5
    go_wp2_with fail
    refine (same_any A5 c5 zs5 A6 c6 zs6 _ _ _ O56.out.rd O6.out.rd true (by rw [hz5.out, hz6.out]; simp)).mono ?_
    rintro e w7 ⟨rfl, n7, rfl⟩
    have B7 := Lib.hid (below_drewN B6.out n7)
    clear O56 O6 hz5 hz6
    go_wp2_with fail
    refine (bool_any A c xs b _ _ (H.out.below B7.out (Nat.le_refl _)) (by omega) B7.out.size).mono ?_
    rintro e w8 ⟨A8, c8, zs8, rfl, hz8, ho8, hb8⟩
    have B8 := Lib.hid (bchain B7.out hb8)
    have O8 := Lib.hid ho8
    clear hb8 ho8
    go_wp2_with fail
    refine (refBool_any A c xs b _ _ (H.out.below B8.out (Nat.le_refl _)) (by omega) B8.out.size).mono ?_
    rintro e w9 ⟨A9, c9, zs9, rfl, hz9, ho9, hb9⟩
    have B9 := Lib.hid (bchain B8.out hb9)
    have O89 := Lib.hid (O8.out.below hb9)
    have O9 := Lib.hid ho9
    clear hb9 ho9 O8
    go_wp2_with fail
    refine (same_any A8 c8 zs8 A9 c9 zs9 _ _ _ O89.out.rd O9.out.rd true (by rw [hz8.out, hz9.out]; simp)).mono ?_
    rintro e w10 ⟨rfl, n10, rfl⟩
    have B10 := Lib.hid (below_drewN B9.out n10)
    go_wp2_with fail
    refine (alive_any _).mono ?_
    rintro e w11 ⟨rfl, hb11⟩
    have B11 := Lib.hid (bchain B10.out hb11)
    clear hb11
    go_wp2_with fail
    go_ret
    exact ⟨rfl, B11.out⟩
end Go.Proofs.Ytjfpfgogbpiknaa
