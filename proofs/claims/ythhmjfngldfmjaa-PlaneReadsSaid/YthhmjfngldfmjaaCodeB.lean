/- Contracts of plane.Right and of the law's plain and told at whole numbers; no condition. -/
import Derived.Test.YthhmjfngldfmjaaCodeA
namespace Go.Proofs.Ythhmjfngldfmjaa
open Go.RowKit
set_option linter.unusedVariables false
set_option linter.unusedSimpArgs false

theorem right_F (x y : Int) (hx : x.natAbs < 8388608) (hy : y.natAbs < 8388608) (w : World) :
    Calls Try.prog 10 #[.complex .f64 (F x) (F y)] w fun e w' => e = .returned (.int .i64 (if inP x = true ∧ inP y = true then 0 else 1)) ∧ w = w' := by
  have hpx := Lib.hid (fun w => part_F x hx w)
  have hpy := Lib.hid (fun w => part_F y hy w)
  unfold PartP at hpx hpy
  generalize F x = fx at *
  generalize F y = fy at *
  generalize (if inP x = true then x + 1048576 else 0) = ux at *
  generalize (if inP y = true then y + 1048576 else 0) = uy at *
  cases hbx : inP x with
  | true =>
    cases hby : inP y with
    | true =>
      rw [hbx] at hpx
      rw [hby] at hpy
      go_enter Try.func10, Try.ntmps10
      go_wp2_with fail
      refine (hpx.out _).mono ?_
      rintro e w1 ⟨rfl, rfl⟩
      go_wp2_with fail
      refine (hpy.out _).mono ?_
      rintro e w1 ⟨rfl, rfl⟩
      go_wp2_with fail
      go_ret
      exact ⟨rfl, rfl⟩
    | false =>
      rw [hbx] at hpx
      rw [hby] at hpy
      go_enter Try.func10, Try.ntmps10
      go_wp2_with fail
      refine (hpx.out _).mono ?_
      rintro e w1 ⟨rfl, rfl⟩
      go_wp2_with fail
      refine (hpy.out _).mono ?_
      rintro e w1 ⟨rfl, rfl⟩
      go_wp2_with fail
      go_ret
      exact ⟨rfl, rfl⟩
  | false =>
    rw [hbx] at hpx
    have hz : (if (false = true ∧ inP y = true) then (0 : Int) else 1) = 1 := by simp
    rw [hz]
    go_enter Try.func10, Try.ntmps10
    go_wp2_with fail
    refine (hpx.out _).mono ?_
    rintro e w1 ⟨rfl, rfl⟩
    go_wp2_with fail
    refine (hpy.out _).mono ?_
    rintro e w1 ⟨rfl, rfl⟩
    go_wp2_with fail
    go_ret
    exact ⟨rfl, rfl⟩

theorem ne_zero_F {n : Int} (h0 : n ≠ 0) (hn : n.natAbs < 8388608) : (FloatKind.f64.format.order (F n) 0 != some .eq) = true := by
  have := eql_F (a := n) (b := 0) hn (by decide)
  rw [F_zero, decide_eq_false h0] at this
  rw [bne, this]
  rfl
theorem zero_zero : (FloatKind.f64.format.order 0 0 != some .eq) = false := by decide
theorem one_by_zero (w : World) : (binOp .quo 40 (.float .f64 4607182418800017408) (.float .f64 0)).run Try.prog w = .ok (.float .f64 9218868437227405312) w :=
  run_float_arith w .quo 40 .f64 _ _ _ (by decide)
theorem inf_pos : (FloatKind.f64.format.order 9218868437227405312 0 == some .gt) = true := by decide

theorem plain_gen (x y : Int) (fx fy : Nat) (hfx : floatOfInt .f64 x = fx) (hfy : floatOfInt .f64 y = fy) (ex : (FloatKind.f64.format.order fx fx == some .eq) = true) (ey : (FloatKind.f64.format.order fy fy == some .eq) = true)
    (cx : fx = 0 ∨ (FloatKind.f64.format.order fx 0 != some .eq) = true) (cy : fy = 0 ∨ (FloatKind.f64.format.order fy 0 != some .eq) = true) (w : World) :
    Calls Try.prog 12 #[.complex .f64 fx fy, .agg #[.int .i64 x, .int .i64 y]] w fun e w' => e = .returned (.bool true) ∧ Below w.heap.size w w' := by
  have z1 := zero_zero
  have z2 := one_by_zero
  have z3 := inf_pos
  have hb := (Below.refl w.heap.size w).alloc (Nat.le_refl _) (.cells #[.int .i64 x, .int .i64 y] 28)
  rcases cx with rfl | cx
  · rcases cy with rfl | cy
    · go_enter Try.func12, Try.ntmps12
      go_wp2_with fail
      go_ret
      exact ⟨rfl, hb⟩
    · go_enter Try.func12, Try.ntmps12
      go_wp2_with fail
      go_ret
      exact ⟨rfl, hb⟩
  · rcases cy with rfl | cy
    · go_enter Try.func12, Try.ntmps12
      go_wp2_with fail
      go_ret
      exact ⟨rfl, hb⟩
    · go_enter Try.func12, Try.ntmps12
      go_wp2_with fail
      go_ret
      exact ⟨rfl, hb⟩
theorem zero_or {n : Int} (hn : n.natAbs < 8388608) : F n = 0 ∨ (FloatKind.f64.format.order (F n) 0 != some .eq) = true := by
  by_cases h0 : n = 0
  · subst h0
    exact .inl F_zero
  · exact .inr (ne_zero_F h0 hn)
theorem plain_F (x y : Int) (hx : x.natAbs < 8388608) (hy : y.natAbs < 8388608) (w : World) :
    Calls Try.prog 12 #[.complex .f64 (F x) (F y), .agg #[.int .i64 x, .int .i64 y]] w fun e w' => e = .returned (.bool true) ∧ Below w.heap.size w w' := by
  have ex := eql_F (a := x) (b := x) hx hx
  have ey := eql_F (a := y) (b := y) hy hy
  simp only [decide_true] at ex ey
  exact plain_gen x y (F x) (F y) rfl rfl ex ey (zero_or hx) (zero_or hy) w

theorem told_ok (x y : Int) (hx : x.natAbs < 8388608) (hy : y.natAbs < 8388608) (w : World) :
    Calls Try.prog 7 #[.complex .f64 (F x) (F y), .int .i64 0, .agg #[.int .i64 x, .int .i64 y], .int .i64 0] w fun e w' => e = .returned (.bool true) ∧ Below w.heap.size w w' := by
  have hp := Lib.hid (fun w => plain_F x y hx hy w)
  have hb := Lib.hid ((Below.refl w.heap.size w).alloc (Nat.le_refl _) (.cells #[.int .i64 x, .int .i64 y] 28))
  generalize F x = fx at *
  generalize F y = fy at *
  go_enter Try.func7, Try.ntmps7
  go_wp2_with fail
  refine (hp.out _).mono ?_
  rintro e w1 ⟨rfl, hb1⟩
  have hb2 := Lib.hid (hb.out.trans (hb1.mono (by simp)))
  clear hb1
  go_wp2_with fail
  go_ret
  exact ⟨rfl, hb2.out⟩
theorem told_bad (p q : Value) (w : World) :
    Calls Try.prog 7 #[.complex .f64 0 0, .int .i64 5, .agg #[p, q], .int .i64 5] w fun e w' => e = .returned (.bool true) ∧ Below w.heap.size w w' := by
  have hp := Lib.hid (fun w => plain_F 0 0 (by decide) (by decide) w)
  have hb := Lib.hid ((Below.refl w.heap.size w).alloc (Nat.le_refl _) (.cells #[p, q] 28))
  rw [F_zero] at hp
  go_enter Try.func7, Try.ntmps7
  go_wp2_with fail
  refine (hp.out _).mono ?_
  rintro e w1 ⟨rfl, hb1⟩
  have hb2 := Lib.hid (hb.out.trans (hb1.mono (by simp)))
  clear hb1
  go_wp2_with fail
  go_ret
  exact ⟨rfl, hb2.out⟩
end Go.Proofs.Ythhmjfngldfmjaa
