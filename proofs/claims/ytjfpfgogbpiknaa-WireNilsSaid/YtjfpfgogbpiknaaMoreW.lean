/- The walks of WireLonger, WireNils; no condition. -/
import Derived.Test.YtjfpfgogbpiknaaOpen
namespace Go.Proofs.Ytjfpfgogbpiknaa
open Go.RowKit
set_option linter.unusedVariables false
set_option linter.unusedSimpArgs false

set_option maxHeartbeats 1000000 in
theorem wireNils_walk (most : Int) (w : World) : Calls Try.prog 9 #[.int .i64 most] w (Yes w) := by
  go_enter Try.func9, Try.ntmps9
  go_wp2_with fail
  refine (fail_nil _ _).mono ?_
  rintro e w1 ⟨rfl, rfl⟩
  go_wp2_with fail
  refine (ruint_nil _).mono ?_
  rintro e w1 ⟨rfl, rfl⟩
  go_wp2_with fail
  refine (rint_nil _ _).mono ?_
  rintro e w1 ⟨rfl, rfl⟩
  go_wp2_with fail
  refine (rbytes_nil _ _).mono ?_
  rintro e w1 ⟨rfl, rfl⟩
  go_wp2_with fail
  refine (rbool_nil _).mono ?_
  rintro e w1 ⟨rfl, rfl⟩
  go_wp2_with fail
  refine (left_nil _).mono ?_
  rintro e w1 ⟨rfl, rfl⟩
  go_wp2_with fail
  refine (done_nil _).mono ?_
  rintro e w1 ⟨rfl, rfl⟩
  go_wp2_with fail
  refine (alive_any _).mono ?_
  rintro e w1 ⟨rfl, hb⟩
  go_wp2_with fail
  go_ret
  exact ⟨rfl, hb⟩

theorem same_any' (A : Option Addr) (c : Nat) (xs : List Nat) (A2 : Option Addr) (c2 : Nat) (ys : List Nat) (n m : Nat) (hn : n = xs.length) (hm : m = ys.length) (w : World) (B B2 : Nat) (h : Rd w B A c xs) (h2 : Rd w B2 A2 c2 ys) (b : Bool) (hb : b = decide (xs = ys)) :
    Calls Try.prog 15 #[.slice A n c, .slice A2 m c2] w (Tells w b) := by
  subst hn hm
  exact same_any A c xs A2 c2 ys w B B2 h h2 b hb

set_option maxHeartbeats 2000000 in
theorem wireLonger_walk (a b : Nat) (w : World) (ha : a < 18446744073709551616) (hb : b < 18446744073709551616) : Calls Try.prog 4 #[.int .u64 (a : Int), .int .u64 (b : Int)] w (Yes w) := by
  have hua := Lib.hid (fun w => uint_any none 0 [] a w 0 (Rd.nil_ _ _) (by simp) (by omega) ha)
  have hub := Lib.hid (fun w => uint_any none 0 [] b w 0 (Rd.nil_ _ _) (by simp) (by omega) hb)
  simp only [List.nil_append] at hua hub
  have HM := Lib.hid (enc_mono a b)
  have HI := Lib.hid (fun h => take_enc (a := a) (b := b) ha hb h)
  have hla := enc_len ha
  have hlb := enc_len hb
  have HQ : Hid (a = b → enc a = enc b) := fun h => by rw [h]
  generalize enc a = xs at *
  generalize enc b = ys at *
  go_enter Try.func4, Try.ntmps4
  go_wp2_with fail
  refine (hua.out _).mono ?_
  rintro e w1 ⟨A1, c1, zs1, rfl, hz1, ho1, hb1⟩
  obtain rfl := hz1.out
  have B1 := Lib.hid hb1
  have O1 := Lib.hid ho1
  clear hb1 ho1 hz1
  go_wp2_with fail
  refine (hub.out _).mono ?_
  rintro e w2 ⟨A2, c2, zs2, rfl, hz2, ho2, hb2⟩
  obtain rfl := hz2.out
  have B2 := Lib.hid (bchain B1.out hb2)
  have O2 := Lib.hid (O1.out.below hb2)
  have P2 := Lib.hid ho2
  clear hb2 ho2 hz2 O1
  have hmx := O2.out.rd.le
  have hmx2 := P2.out.rd.le
  by_cases hab : a = b
  · have e : zs1 = zs2 := HQ.out hab
    have E := Lib.hid e
    clear e
    have t1 : ¬ (a : Int) < (b : Int) := by omega
    have t2 : ((a : Int) != (b : Int)) = false := by simp; omega
    have t3 : ((a : Int) == (b : Int)) = true := by simp; omega
    clear hab
    go_wp2_with fail
    refine (same_any A1 c1 zs1 A2 c2 zs2 _ _ _ O2.out.rd P2.out.rd true (by rw [E.out]; simp)).mono ?_
    rintro e w3 ⟨rfl, n3, rfl⟩
    go_wp2_with fail
    refine (alive_any _).mono ?_
    rintro e w4 ⟨rfl, hb4⟩
    have B4 := Lib.hid (bchain (below_drewN B2.out n3) hb4)
    clear hb4
    go_wp2_with fail
    go_ret
    exact ⟨rfl, B4.out⟩
  · have t2 : ((a : Int) != (b : Int)) = true := by simp; omega
    have t3 : ((a : Int) == (b : Int)) = false := by simp; omega
    have hne : zs1 ≠ zs2 := fun e => hab (HI.out (by rw [← e, List.take_length]))
    have NE := Lib.hid hne
    clear hne
    by_cases hl : zs1.length ≤ zs2.length
    · have t4 : ¬ (zs2.length : Int) < (zs1.length : Int) := by omega
      have t5 : (zs1.length : Int) ≤ (zs2.length : Int) := by omega
      have t6 : (zs1.length : Int) ≤ (c2 : Int) := by omega
      have NT : Hid (zs1 ≠ zs2.take zs1.length) := fun e => hab (HI.out e)
      have hlt : Hid (zs1.length = (zs2.take zs1.length).length) := by show _ = _; rw [List.length_take]; omega
      clear hab hl
      by_cases hlt2 : (a : Int) < (b : Int)
      all_goals
        go_wp2_with fail
        refine (same_any' A1 c1 zs1 A2 c2 (zs2.take zs1.length) _ _ rfl hlt.out _ _ _ O2.out.rd (P2.out.rd.take _) false (by symm; simpa using NT.out)).mono ?_
        rintro e w3 ⟨rfl, n3, rfl⟩
        go_wp2_with fail
        refine (same_any A1 c1 zs1 A2 c2 zs2 _ _ _ (O2.out.rd.drewN n3) (P2.out.rd.drewN n3) false (by symm; simpa using NE.out)).mono ?_
        rintro e w3 ⟨rfl, n4, rfl⟩
        go_wp2_with fail
        refine (alive_any _).mono ?_
        rintro e w4 ⟨rfl, hb4⟩
        have B4 := Lib.hid (bchain (below_drewN B2.out _) hb4)
        clear hb4
        go_wp2_with fail
        go_ret
        exact ⟨rfl, B4.out⟩
    · have t1 : ¬ (a : Int) < (b : Int) := by
        intro h
        exact hl (HM.out (by omega))
      have t5 : ¬ (zs1.length : Int) ≤ (zs2.length : Int) := by omega
      clear hab hl
      go_wp2_with fail
      refine (same_any A1 c1 zs1 A2 c2 zs2 _ _ _ O2.out.rd P2.out.rd false (by symm; simpa using NE.out)).mono ?_
      rintro e w3 ⟨rfl, n3, rfl⟩
      go_wp2_with fail
      refine (alive_any _).mono ?_
      rintro e w4 ⟨rfl, hb4⟩
      have B4 := Lib.hid (bchain (below_drewN B2.out n3) hb4)
      clear hb4
      go_wp2_with fail
      go_ret
      exact ⟨rfl, B4.out⟩
end Go.Proofs.Ytjfpfgogbpiknaa
