/- Contracts of math.Abs, math.Trunc and plane's part, Right over floats that are whole numbers below 2^23; the law's plain, told; no condition. -/
import Derived.Test.YthhmjfngldfmjaaProg
import Derived.Test.YthhmjfngldfmjaaBase
import Derived.Test.YthhmjfngldfmjaaFlo
import Derived.Laws.Externs
import Derived.Laws.BitsAllLaws
import Derived.Outline
import Derived.WalkMore
import Derived.Deep.LoopGhost
import Derived.BigQuiet
import Derived.Deep.QuietTactic
namespace Go.Proofs.Ythhmjfngldfmjaa
open Go.RowKit
set_option linter.unusedVariables false
set_option linter.unusedSimpArgs false

theorem bits17 (x : Nat) (w : World) : (callFunc 17 #[.float .f64 x]).run Try.prog w = .ok (.value (.int .u64 (x : Int))) w := by
  rw [run_callFunc_extern (e := Extern.MathFloatBits.float64bits) Try.func17 (by kernel_rfl) (by kernel_rfl) (by kernel_rfl) (by kernel_rfl)]
  rfl
theorem bits16 (n : Int) (w : World) : (callFunc 16 #[.int .u64 n]).run Try.prog w = .ok (.value (.float .f64 n.toNat)) w := by
  rw [run_callFunc_extern (e := Extern.MathFloatBits.float64frombits) Try.func16 (by kernel_rfl) (by kernel_rfl) (by kernel_rfl) (by kernel_rfl)]
  rfl
theorem tr18 {n : Int} (hn : n.natAbs < 8388608) (w : World) : (callFunc 18 #[.float .f64 (F n)]).run Try.prog w = .ok (.value (.float .f64 (F n))) w := by
  rw [run_callFunc_extern (e := Extern.MathFloor.toIntegral "math.archTrunc" .zero) Try.func18 (by kernel_rfl) (by kernel_rfl) (by kernel_rfl) (by kernel_rfl)]
  obtain ⟨s, m, k, e⟩ := finite_F hn
  have t := trunc_F hn
  have : (Extern.MathFloor.toIntegral "math.archTrunc" .zero) #[.float .f64 (F n)] = pure (.float .f64 (F n)) := by
    have e2 : FloatKind.f64.decode (F n) = .number s m k := e
    show (match FloatKind.f64.decode (F n) with | .nan s t => _ | d => pure (Value.float .f64 (FloatKind.f64.encode (d.integral .zero)))) = _
    rw [e2]
    rw [e] at t
    exact congrArg (fun x => pure (Value.float .f64 x)) t
  rw [this]
  rfl
theorem andNot_top (x : Nat) (hx : x < 18446744073709551616) : bits .andNot .u64 (x : Int) 9223372036854775808 = ((x % 9223372036854775808 : Nat) : Int) := by
  have e := u64_andNot_nat x 9223372036854775808 hx (by omega)
  have e2 : x &&& (18446744073709551615 - 9223372036854775808) = x % 9223372036854775808 := Nat.and_two_pow_sub_one_eq_mod x 63
  rw [e2] at e
  exact e
theorem abs_F (n : Int) (hn : n.natAbs < 8388608) (w : World) : Calls Try.prog 14 #[.float .f64 (F n)] w fun e w' => e = .returned (.float .f64 (F n.natAbs)) ∧ w = w' := by
  have h1 := fun w => bits17 (F n) w
  have h2 := fun w => bits16 ((F n % 9223372036854775808 : Nat) : Int) w
  have h3 := andNot_top (F n) (F_lt n hn)
  rw [F_mod hn, Int.toNat_natCast] at h2
  rw [F_mod hn] at h3
  go_enter Try.func14, Try.ntmps14
  go_wp2_with fail
  go_ret
  exact ⟨rfl, rfl⟩
theorem trunc_any (n : Int) (hn : n.natAbs < 8388608) (w : World) : Calls Try.prog 15 #[.float .f64 (F n)] w fun e w' => e = .returned (.float .f64 (F n)) ∧ w = w' := by
  have h1 := fun w => tr18 hn w
  go_enter Try.func15, Try.ntmps15
  go_wp2_with fail
  go_ret
  exact ⟨rfl, rfl⟩

/-- May a whole number be a part of a place? -/
def inP (n : Int) : Bool := decide (-1048576 ≤ n ∧ n ≤ 1048576)
theorem F_max : F 1048576 = 4697254411347427328 := by decide
theorem F_one : F 1 = 4607182418800017408 := by decide
theorem leq_F {a b : Int} (ha : a.natAbs < 8388608) (hb : b.natAbs < 8388608) : (FloatKind.f64.format.order (F a) (F b) == some .lt || FloatKind.f64.format.order (F a) (F b) == some .eq) = decide (a ≤ b) := by
  rw [show FloatKind.f64.format.order (F a) (F b) = some (compare a b) from order_F ha hb, comp_int]
  by_cases h1 : a < b
  · rw [if_pos h1]
    simp; omega
  · rw [if_neg h1]
    by_cases h2 : a = b
    · rw [if_pos h2]
      simp [h2]
    · rw [if_neg h2]
      simp; omega
theorem eql_F {a b : Int} (ha : a.natAbs < 8388608) (hb : b.natAbs < 8388608) : (FloatKind.f64.format.order (F a) (F b) == some .eq) = decide (a = b) := by
  rw [show FloatKind.f64.format.order (F a) (F b) = some (compare a b) from order_F ha hb, comp_int]
  by_cases h1 : a < b
  · rw [if_pos h1]
    simp; omega
  · rw [if_neg h1]
    by_cases h2 : a = b
    · rw [if_pos h2]
      simp [h2]
    · rw [if_neg h2]
      simp; omega

def PartP (n : Int) (w : World) (e : Ending) (w' : World) : Prop := e = .returned (.tuple #[.int .u64 (if inP n = true then n + 1048576 else 0), .bool (inP n)]) ∧ w = w'
theorem part_F (n : Int) (hn : n.natAbs < 8388608) (w : World) : Calls Try.prog 13 #[.float .f64 (F n)] w (PartP n w) := by
  have ha := Lib.hid (fun w => abs_F n hn w)
  have ht := Lib.hid (fun w => trunc_any n hn w)
  have hle := leq_F (a := (n.natAbs : Int)) (b := 1048576) (by simpa using hn) (by decide)
  rw [F_max] at hle
  have heq := eql_F (a := n) (b := n) hn hn
  simp only [decide_true] at heq
  have hto := fun (w : World) => run_convert_float_int (P := Try.prog) w 40 2 .f64 .i64 (F n) n (by rw [Try.underlying40]; rfl) Try.underlying2 (toInt_F hn)
  unfold PartP
  by_cases h : -1048576 ≤ n ∧ n ≤ 1048576
  · have hi : inP n = true := decide_eq_true h
    rw [hi, if_pos rfl]
    have hd : decide ((n.natAbs : Int) ≤ 1048576) = true := decide_eq_true (by omega)
    rw [hd] at hle
    obtain ⟨k1, k2⟩ := h
    clear hi hd
    generalize F n = x at *
    generalize F (n.natAbs : Int) = y at *
    go_enter Try.func13, Try.ntmps13
    go_wp2_with fail
    refine (ha.out _).mono ?_
    rintro e w1 ⟨rfl, rfl⟩
    go_wp2_with fail
    refine (ht.out _).mono ?_
    rintro e w1 ⟨rfl, rfl⟩
    go_wp2_with fail
    go_ret2
    exact ⟨rfl, rfl⟩
  · have hi : inP n = false := decide_eq_false h
    rw [hi, if_neg (by decide)]
    have hd : decide ((n.natAbs : Int) ≤ 1048576) = false := decide_eq_false (by omega)
    rw [hd] at hle
    clear hi hd
    generalize F n = x at *
    generalize F (n.natAbs : Int) = y at *
    go_enter Try.func13, Try.ntmps13
    go_wp2_with fail
    refine (ha.out _).mono ?_
    rintro e w1 ⟨rfl, rfl⟩
    go_wp2_with fail
    go_ret2
    exact ⟨rfl, rfl⟩
end Go.Proofs.Ythhmjfngldfmjaa
