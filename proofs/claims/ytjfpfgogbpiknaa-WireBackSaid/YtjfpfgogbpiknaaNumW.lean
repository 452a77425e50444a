/- The walk of WireNumbers: a number's form is read as it, and how long it is; no condition. -/
import Derived.Test.YtjfpfgogbpiknaaOpen
namespace Go.Proofs.Ytjfpfgogbpiknaa
open Go.RowKit
set_option linter.unusedVariables false
set_option linter.unusedSimpArgs false

def cnt (m : Nat) : Nat := if m = 0 then 0 else (enc m).length
theorem cnt_step (m : Nat) : (enc m).length = 1 + cnt (m / 128) := by
  unfold cnt
  by_cases h : m < 128
  · rw [enc_small h, if_pos (by omega)]; rfl
  · rw [enc_big (by omega), if_neg (by omega)]; simp; omega
theorem cnt_pos {m : Nat} (h : 0 < m) : cnt m = 1 + cnt (m / 128) := by
  rw [← cnt_step]; unfold cnt; rw [if_neg (by omega)]
theorem u_enc (n : Nat) (more : List Nat) (h : n < 18446744073709551616) : uNum (enc n ++ more) 0 = n ∧ uRest (enc n ++ more) 0 = more ∧ uK (enc n ++ more) 0 = 0 := by
  unfold uNum uRest uK
  simp only [if_true]
  rw [enc_dec0 more h]
  exact ⟨rfl, rfl, rfl⟩

set_option maxHeartbeats 2000000 in
theorem wireNumbers_walk (n : Nat) (A : Option Addr) (c : Nat) (ys : List Nat) (w : World) (hn : n < 18446744073709551616) (h : Rd w w.heap.size A c ys) :
    Calls Try.prog 5 #[.int .u64 (n : Int), .slice A ys.length c] w (Yes w) := by
  have H := Lib.hid h
  clear h
  by_cases hl : 1000 < ys.length
  · have hli : (1000 : Int) < (ys.length : Int) := by omega
    go_enter Try.func5, Try.ntmps5
    go_wp2_with fail
    refine (alive_any _).mono ?_
    rintro e w1 ⟨rfl, hb⟩
    go_wp2_with fail
    go_ret
    exact ⟨rfl, hb⟩
  · have hli : ¬ (1000 : Int) < (ys.length : Int) := by omega
    have hu := Lib.hid (fun w => uint_any none 0 [] n w 0 (Rd.nil_ _ _) (by simp) (by omega) hn)
    simp only [List.nil_append] at hu
    have hlen := enc_len hn
    have U := Lib.hid (u_enc n ys hn)
    have HC := Lib.hid (cnt_step n)
    have hen := enc_ne n
    generalize enc n = es at *
    go_enter Try.func5, Try.ntmps5
    go_wp2_with fail
    refine (hu.out _).mono ?_
    rintro e w1 ⟨A1, c1, zs1, rfl, hz1, ho1, hb1⟩
    obtain rfl := hz1.out
    have B1 := Lib.hid hb1
    have O1 := Lib.hid ho1
    clear hb1 ho1 hz1 hu
    go_wp2_with fail
    go_loop [6, 7] (fun v x => ∃ k m : Nat, v = .int .i64 (k : Int) ∧ x = .int .u64 (m : Int) ∧ k ≤ 10 ∧ Hid (k + cnt m = zs1.length) ∧ m < 18446744073709551616) (fun _ x => (intOf x).toNat)
    case atStart => exact ⟨1, n / 128, rfl, by go_num, by omega, HC.out.symm, by omega⟩
    case round =>
      obtain ⟨k, m, rfl, rfl, hk, hkm, hm⟩ := hrel
      by_cases hm0 : 0 < m
      · have t1 : (0 : Int) < (m : Int) := by omega
        have e1 := cnt_pos hm0
        have hkm2 : Hid (k + 1 + cnt (m / 128) = zs1.length) := by have := hkm.out; show _ = _; omega
        have hk2 : k + 1 ≤ 10 := by have := hkm.out; omega
        clear e1
        go_wp2
        go_round
        case rel => exact ⟨k + 1, m / 128, by go_num, by go_num, hk2, hkm2, by omega⟩
        case measure => simp [intOf]; omega
      · have t1 : ¬ (0 : Int) < (m : Int) := by omega
        have hk3 : k = zs1.length := by
          have := hkm.out
          have e0 : m = 0 := by omega
          rw [e0] at this
          simpa [cnt] using this
        have t2 : ((zs1.length : Int) != (k : Int)) = false := by simp; omega
        have t3 : ¬ (10 : Int) < (k : Int) := by omega
        have O1e := Lib.hid ((Own.empty w1 w1.heap.size 5 (Nat.le_refl _)))
        have O1r := Lib.hid (O1.out.rd.alloc (Nat.le_refl _) (.cells #[] 5))
        clear hkm hk3
        go_wp2_with (at_builtin; refine wpList_app _ rfl _ _ 22 rfl w1.heap.size 5 Try.underlying22 info5 rfl rfl O1e.out rfl rfl O1r.out (by simp; omega) (by simp) ?_)
        intro A2 c2 zs2 w2 hz2 ho2 hg2
        have hbel2 := Lib.hid (grown_to_below ((Below.refl w1.heap.size w1).alloc (Nat.le_refl _) _) hg2 O1e.out (Nat.le_refl _))
        have hz2l : zs2.length ≤ 10 := by rw [hz2.out]; simpa using hlen
        have B2 := Lib.hid (bchain B1.out hbel2.out)
        clear hg2
        go_wp2_with (at_builtin; refine wpList_app _ rfl _ _ 22 rfl w1.heap.size 5 Try.underlying22 info5 rfl rfl ho2 rfl rfl (H.out.below B2.out (Nat.le_refl _)) (by omega) (hbel2.out.size) ?_)
        intro A3 c3 zs3 w3 hz3 ho3 hg3
        have hbel3 := Lib.hid (grown_to_below hbel2.out hg3 ho2 (Nat.le_refl _))
        have B3 := Lib.hid (bchain B1.out hbel3.out)
        have HZ3 : Hid (zs3 = zs1 ++ ys) := by show _ = _; rw [hz3.out, hz2.out]
        have hz3l : zs3.length ≤ 2000 := by rw [HZ3.out, List.length_append]; omega
        have O3 := Lib.hid ho3
        clear hg3 ho3 hz3 hz2 ho2
        go_wp2_with fail
        refine (read_any A3 c3 zs3 _ _ O3.out.rd (by omega) (Nat.le_refl _)).mono ?_
        rintro e w4 ⟨g, rfl, hr4, hb4, hge⟩
        have B4 := Lib.hid (bchain B3.out hb4)
        have hge2 : w.heap.size ≤ g := by have := B3.out.size; omega
        rw [HZ3.out] at hr4
        have R4 := Lib.hid hr4
        clear hr4 hb4
        go_wp2_with fail
        have hru := ruint_any g (zs1 ++ ys) 0 w4 R4.out (by rw [List.length_append]; omega)
        rw [U.out.1, U.out.2.1, U.out.2.2] at hru
        refine hru.mono ?_
        clear hru
        rintro e w5 ⟨rfl, hr5, hg5⟩
        have R5 := Lib.hid hr5
        have B5 := Lib.hid (below_grown_new B4.out hg5 hge2)
        clear hr5 hg5
        go_wp2_with fail
        refine (left_any g ys 0 ys.length _ R5.out rfl).mono ?_
        rintro e w6 ⟨rfl, rfl⟩
        by_cases hy : ys.length = 0
        · have t5 : ((ys.length : Int) == 0) = true := by simp [hy]
          have hd : Hid ((0 : Int) = rDone ys 0) := by show _ = _; simp [rDone, hy]
          clear hy
          go_wp2_with fail
          refine (done_any g ys 0 0 _ R5.out hd.out).mono ?_
          rintro e w6 ⟨rfl, rfl⟩
          go_wp2_with fail
          refine (alive_any _).mono ?_
          rintro e w7 ⟨rfl, hb7⟩
          have B7 := Lib.hid (bchain B5.out hb7)
          clear hb7
          go_wp2_with fail
          go_ret
          exact ⟨rfl, B7.out⟩
        · have t5 : ((ys.length : Int) == 0) = false := beq_eq_false_iff_ne.2 (by omega)
          have hp : 0 < ys.length := by omega
          have hd : Hid ((3 : Int) = rDone ys 0) := by
            show _ = _
            simp only [rDone, if_true, if_pos hp]
          clear hp
          clear hy
          go_wp2_with fail
          refine (done_any g ys 0 3 _ R5.out hd.out).mono ?_
          rintro e w6 ⟨rfl, rfl⟩
          go_wp2_with fail
          refine (alive_any _).mono ?_
          rintro e w7 ⟨rfl, hb7⟩
          have B7 := Lib.hid (bchain B5.out hb7)
          clear hb7
          go_wp2_with fail
          go_ret
          exact ⟨rfl, B7.out⟩
end Go.Proofs.Ytjfpfgogbpiknaa
