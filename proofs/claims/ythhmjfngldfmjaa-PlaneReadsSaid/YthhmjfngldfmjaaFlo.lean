/- Whole numbers below 2^23 as float64 words: what they are read as, their order, their sizes, their cuts; no condition. -/
import Derived.Laws.FloatArith
namespace Go.Proofs.Ythhmjfngldfmjaa
open Ieee
set_option linter.unusedVariables false
set_option linter.unusedSimpArgs false

/-- The float of a whole number. -/
def F (n : Int) : Nat := floatOfInt .f64 n
/-- The rung of a number m that is not nought. -/
def rung (m : Nat) : Nat := (m.log2 + 1022) * 4503599627370496 + m * 2 ^ (52 - m.log2)

theorem log_b {m : Nat} (h0 : m ≠ 0) (hm : m < 8388608) : m.log2 ≤ 22 ∧ 2 ^ m.log2 ≤ m ∧ m < 2 ^ (m.log2 + 1) := by
  have h1 : m.log2 < 23 := (Nat.log2_lt h0).2 (by simpa using hm)
  exact ⟨by omega, Nat.log2_self_le h0, Nat.lt_log2_self⟩
theorem scaled {m : Nat} (h0 : m ≠ 0) (hm : m < 8388608) : 4503599627370496 ≤ m * 2 ^ (52 - m.log2) ∧ m * 2 ^ (52 - m.log2) < 9007199254740992 := by
  obtain ⟨h1, h2, h3⟩ := log_b h0 hm
  have e1 : 2 ^ m.log2 * 2 ^ (52 - m.log2) = 4503599627370496 := by rw [← Nat.pow_add, show m.log2 + (52 - m.log2) = 52 by omega]
  have e2 : 2 ^ (m.log2 + 1) * 2 ^ (52 - m.log2) = 9007199254740992 := by rw [← Nat.pow_add, show m.log2 + 1 + (52 - m.log2) = 53 by omega]
  have hp : 0 < 2 ^ (52 - m.log2) := Nat.two_pow_pos _
  constructor
  · rw [← e1]; exact Nat.mul_le_mul_right _ h2
  · rw [← e2]; exact Nat.mul_lt_mul_of_pos_right h3 hp

theorem cut_zero (way : Toward) (neg : Bool) (n : Nat) : way.cut neg n 0 = n := by
  unfold Toward.cut
  have e : (1 <<< min 0 (n.log2 + 2)) = 1 := by simp
  simp only [e, Nat.div_one, Nat.mod_one]
  cases way <;> simp

theorem nearest_eq (neg : Bool) {m : Nat} (h0 : m ≠ 0) (hm : m < 8388608) : double.nearest neg m 0 = double.word neg (rung m) := by
  obtain ⟨h1, h2, h3⟩ := log_b h0 hm
  obtain ⟨s1, s2⟩ := scaled h0 hm
  unfold Format.nearest
  rw [if_neg h0]
  have hl : max ((0 : Int) + m.log2 - double.fractionBits) double.leastPlace = (m.log2 : Int) - 52 := by
    show max ((0 : Int) + m.log2 - 52) (2 - 2 ^ (11 - 1) - 52) = _
    have : (2 : Int) ^ (11 - 1) = 1024 := by decide
    rw [this]
    omega
  simp only [hl]
  have e1 : ((0 : Int) - ((m.log2 : Int) - 52)).toNat = 52 - m.log2 := by omega
  have e2 : (((m.log2 : Int) - 52) - 0).toNat = 0 := by omega
  have e3 : (((m.log2 : Int) - 52) - double.leastPlace).toNat = m.log2 + 1022 := by
    show (((m.log2 : Int) - 52) - (2 - 2 ^ (11 - 1) - 52)).toNat = _
    have : (2 : Int) ^ (11 - 1) = 1024 := by decide
    rw [this]
    omega
  rw [e1, e2, e3, cut_zero, Nat.shiftLeft_eq]
  congr 1
  have e4 : double.binade = 4503599627370496 := by decide
  have e5 : double.infRung = 9218868437227405312 := by decide
  rw [e4, e5, Nat.min_eq_left (by omega)]
  rfl

theorem F_zero : F 0 = 0 := by decide
theorem F_eq {n : Int} (h0 : n ≠ 0) (hn : n.natAbs < 8388608) : F n = (if n < 0 then 9223372036854775808 else 0) + rung n.natAbs := by
  show double.nearest (decide (n < 0)) n.natAbs 0 = _
  rw [nearest_eq _ (by omega) hn]
  unfold Format.word
  have e : double.signWeight = 9223372036854775808 := by decide
  rw [e]
  by_cases h : n < 0
  · rw [if_pos h, if_pos (by simpa using h)]
  · rw [if_neg h, if_neg (by simpa using h), Nat.zero_add]
theorem rung_lt {m : Nat} (h0 : m ≠ 0) (hm : m < 8388608) : rung m < 9218868437227405312 ∧ 4503599627370496 ≤ rung m := by
  obtain ⟨h1, h2, h3⟩ := log_b h0 hm
  obtain ⟨s1, s2⟩ := scaled h0 hm
  unfold rung
  omega
theorem rung_mod {m : Nat} (h0 : m ≠ 0) (hm : m < 8388608) : rung m % 4503599627370496 = m * 2 ^ (52 - m.log2) - 4503599627370496 ∧ rung m / 4503599627370496 = m.log2 + 1023 := by
  obtain ⟨s1, s2⟩ := scaled h0 hm
  unfold rung
  omega
theorem read_eq {n : Int} (h0 : n ≠ 0) (hn : n.natAbs < 8388608) : double.read (F n) = .number (decide (n < 0)) (n.natAbs * 2 ^ (52 - n.natAbs.log2)) ((n.natAbs.log2 : Int) - 52) := by
  have hm0 : n.natAbs ≠ 0 := by omega
  obtain ⟨r1, r2⟩ := rung_lt hm0 hn
  obtain ⟨q1, q2⟩ := rung_mod hm0 hn
  obtain ⟨s1, s2⟩ := scaled hm0 hn
  have e : double.signWeight = 9223372036854775808 := by decide
  have e4 : double.binade = 4503599627370496 := by decide
  have e5 : double.infRung = 9218868437227405312 := by decide
  have e6 : double.leastPlace = -1074 := by decide
  have f1 : (F n / 9223372036854775808 % 2 == 1) = decide (n < 0) := by
    rw [F_eq h0 hn]
    by_cases h : n < 0
    · rw [if_pos h]
      have : (9223372036854775808 + rung n.natAbs) / 9223372036854775808 % 2 = 1 := by omega
      rw [this]; simp [h]
    · rw [if_neg h]
      have : (0 + rung n.natAbs) / 9223372036854775808 % 2 = 0 := by omega
      rw [this]; simp [h]
  have f2 : F n % 9223372036854775808 = rung n.natAbs := by
    rw [F_eq h0 hn]
    split <;> omega
  unfold Format.read
  simp only [e, e4, e5, e6, f1, f2]
  rw [if_neg (by omega), if_pos r1, q1, q2]
  have g1 : 4503599627370496 + (n.natAbs * 2 ^ (52 - n.natAbs.log2) - 4503599627370496) = n.natAbs * 2 ^ (52 - n.natAbs.log2) := by omega
  have g2 : (-1074 : Int) + ((n.natAbs.log2 + 1023 - 1 : Nat) : Int) = (n.natAbs.log2 : Int) - 52 := by omega
  rw [g1, g2]
theorem F_mod {n : Int} (hn : n.natAbs < 8388608) : F n % 9223372036854775808 = F (n.natAbs : Int) := by
  by_cases h0 : n = 0
  · subst h0
    show F 0 % _ = F 0
    rw [F_zero]
  · obtain ⟨r1, r2⟩ := rung_lt (m := n.natAbs) (by omega) hn
    have e : F (n.natAbs : Int) = rung n.natAbs := by
      rw [F_eq (n := (n.natAbs : Int)) (by omega) (by simpa using hn), if_neg (by omega), Nat.zero_add, Int.natAbs_natCast]
    rw [F_eq h0 hn, e]
    split <;> omega
theorem F_lt (n : Int) (hn : n.natAbs < 8388608) : F n < 18446744073709551616 := by
  by_cases h0 : n = 0
  · subst h0
    rw [F_zero]
    omega
  · obtain ⟨r1, r2⟩ := rung_lt (m := n.natAbs) (by omega) hn
    rw [F_eq h0 hn]
    split <;> omega

/-- A datum stands for a whole number. -/
def Num (d : Datum) (n : Int) : Prop := ∃ (s : Bool) (m k : Nat), d = .number s m (-(k : Int)) ∧ signed s m 0 = n * 2 ^ k
theorem signed_up (s : Bool) (m k : Nat) : signed s m k = signed s m 0 * 2 ^ k := by
  unfold signed
  cases s <;> simp [Nat.shiftLeft_eq, Int.neg_mul]
theorem num_F {n : Int} (hn : n.natAbs < 8388608) : Num (double.read (F n)) n := by
  by_cases h0 : n = 0
  · subst h0
    exact ⟨false, 0, 1074, by rw [F_zero]; decide, (Int.zero_mul _).symm⟩
  · obtain ⟨h1, _, _⟩ := log_b (m := n.natAbs) (by omega) hn
    refine ⟨decide (n < 0), n.natAbs * 2 ^ (52 - n.natAbs.log2), 52 - n.natAbs.log2, ?_, ?_⟩
    · rw [read_eq h0 hn]
      have : ((n.natAbs.log2 : Int) - 52) = -((52 - n.natAbs.log2 : Nat) : Int) := by omega
      rw [this]
    · unfold signed
      rw [Nat.shiftLeft_zero]
      have e : ((n.natAbs * 2 ^ (52 - n.natAbs.log2) : Nat) : Int) = (n.natAbs : Int) * 2 ^ (52 - n.natAbs.log2) := by simp
      by_cases h : n < 0
      · rw [if_pos (by simpa using h), e, ← Int.neg_mul]
        congr 1
        omega
      · rw [if_neg (by simpa using h), e]
        congr 1
        omega
theorem comp_int (x y : Int) : compare x y = if x < y then .lt else if x = y then .eq else .gt := rfl
theorem order_num {d1 d2 : Datum} {a b : Int} (h1 : Num d1 a) (h2 : Num d2 b) : d1.order d2 = some (compare a b) := by
  obtain ⟨s, m, k, rfl, e1⟩ := h1
  obtain ⟨t, n, j, rfl, e2⟩ := h2
  show some (compare (signed s m (-(k : Int) - min (-(k : Int)) (-(j : Int))).toNat) (signed t n (-(j : Int) - min (-(k : Int)) (-(j : Int))).toNat)) = _
  have hb : min (-(k : Int)) (-(j : Int)) = -((max k j : Nat) : Int) := by omega
  have g1 : (-(k : Int) - -((max k j : Nat) : Int)).toNat = max k j - k := by omega
  have g2 : (-(j : Int) - -((max k j : Nat) : Int)).toNat = max k j - j := by omega
  rw [hb, g1, g2, signed_up s, signed_up t, e1, e2]
  have p1 : a * 2 ^ k * 2 ^ (max k j - k) = a * 2 ^ (max k j) := by rw [Int.mul_assoc, ← Int.pow_add, show k + (max k j - k) = max k j by omega]
  have p2 : b * 2 ^ j * 2 ^ (max k j - j) = b * 2 ^ (max k j) := by rw [Int.mul_assoc, ← Int.pow_add, show j + (max k j - j) = max k j by omega]
  rw [p1, p2]
  have hp : (0 : Int) < 2 ^ (max k j) := by
    have : (0 : Nat) < 2 ^ (max k j) := Nat.two_pow_pos _
    exact_mod_cast this
  congr 1
  rcases Int.lt_trichotomy a b with h | h | h
  · have := Int.mul_lt_mul_of_pos_right h hp
    rw [comp_int, comp_int, if_pos h, if_pos this]
  · subst h
    simp
  · have := Int.mul_lt_mul_of_pos_right h hp
    rw [comp_int, comp_int, if_neg (by omega), if_neg (by omega), if_neg (by omega), if_neg (by omega)]
theorem order_F {a b : Int} (ha : a.natAbs < 8388608) (hb : b.natAbs < 8388608) : double.order (F a) (F b) = some (compare a b) := order_num (num_F ha) (num_F hb)

/-- Cut towards nought a whole number is what it was. -/
theorem cut_whole (s : Bool) (m k : Nat) (hk : k ≤ 52) (hm : m ≠ 0) (hl : (m * 2 ^ k).log2 = 52) : Toward.zero.cut s (m * 2 ^ k) k = m := by
  unfold Toward.cut
  rw [hl, Nat.min_eq_left (by omega), Nat.one_shiftLeft]
  simp only [Bool.toNat_false, Nat.add_zero]
  exact Nat.mul_div_cancel _ (Nat.two_pow_pos _)
theorem log_scaled {m : Nat} (h0 : m ≠ 0) (hm : m < 8388608) : (m * 2 ^ (52 - m.log2)).log2 = 52 := by
  obtain ⟨s1, s2⟩ := scaled h0 hm
  have hne : m * 2 ^ (52 - m.log2) ≠ 0 := by omega
  have h1 : (m * 2 ^ (52 - m.log2)).log2 < 53 := (Nat.log2_lt hne).2 (by simpa using s2)
  have h2 : 52 ≤ (m * 2 ^ (52 - m.log2)).log2 := (Nat.le_log2 hne).2 (by simpa using s1)
  omega
theorem integral_F {n : Int} (hn : n.natAbs < 8388608) : (double.read (F n)).integral .zero = .number (decide (n < 0)) n.natAbs 0 := by
  by_cases h0 : n = 0
  · subst h0
    rw [F_zero]
    decide
  · obtain ⟨h1, _, _⟩ := log_b (m := n.natAbs) (by omega) hn
    rw [read_eq h0 hn]
    show Datum.number _ (Toward.zero.cut _ ((n.natAbs * 2 ^ (52 - n.natAbs.log2)) <<< ((n.natAbs.log2 : Int) - 52).toNat) (-((n.natAbs.log2 : Int) - 52)).toNat) 0 = _
    have e1 : ((n.natAbs.log2 : Int) - 52).toNat = 0 := by omega
    have e2 : (-((n.natAbs.log2 : Int) - 52)).toNat = 52 - n.natAbs.log2 := by omega
    rw [e1, e2, Nat.shiftLeft_zero, cut_whole _ _ _ (by omega) (by omega) (log_scaled (by omega) hn)]
theorem trunc_F {n : Int} (hn : n.natAbs < 8388608) : double.write ((double.read (F n)).integral .zero) = F n := by
  rw [integral_F hn]
  rfl
theorem toInt_F {n : Int} (hn : n.natAbs < 8388608) : floatToIntVal .f64 (F n) .i64 = some n := by
  unfold floatToIntVal
  have e : (FloatKind.f64.decode (F n)).toInt .zero = some n := by
    show ((double.read (F n)).toInt .zero) = some n
    unfold Datum.toInt
    rw [integral_F hn]
    show some (signed (decide (n < 0)) n.natAbs 0) = some n
    unfold signed
    rw [Nat.shiftLeft_zero]
    by_cases h : n < 0
    · rw [if_pos (by simpa using h)]
      congr 1
      omega
    · rw [if_neg (by simpa using h)]
      congr 1
      omega
  rw [e]
  have m1 : IntKind.i64.min = -9223372036854775808 := by decide
  have m2 : IntKind.i64.max = 9223372036854775807 := by decide
  simp only [m1, m2]
  rw [if_pos (by omega)]
theorem finite_F {n : Int} (hn : n.natAbs < 8388608) : ∃ s m k, double.read (F n) = .number s m k := by
  obtain ⟨s, m, k, e, _⟩ := num_F hn
  exact ⟨s, m, _, e⟩
end Go.Proofs.Ythhmjfngldfmjaa
