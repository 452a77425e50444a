/- Rows' bits: the number of six bytes, its even and odd bits, from below and from above; no condition. -/
import Derived.Test.YthhmjfngldfmjaaFlo
namespace Go.Proofs.Ythhmjfngldfmjaa
set_option linter.unusedVariables false
set_option linter.unusedSimpArgs false

/-- The k-th byte. -/
def byte (s : ByteArray) (k : Nat) : Nat := (s.data.toList.getD k 0).toNat
theorem byte_lt (s : ByteArray) (k : Nat) : byte s k < 256 := (s.data.toList.getD k 0).toNat_lt
theorem byte_get (s : ByteArray) (k : Nat) (h : k < s.size) : (s[k]'h).toNat = byte s k := by
  unfold byte
  have h2 : k < s.data.toList.length := by simpa using h
  rw [List.getD_eq_getElem?_getD, List.getElem?_eq_getElem h2]
  simp
  rfl
/-- The number of the k bytes behind the first. -/
def nb (s : ByteArray) : Nat → Nat
  | 0 => 0
  | k + 1 => nb s k * 256 + byte s (k + 1)
theorem nb_lt (s : ByteArray) (k : Nat) : nb s k < 256 ^ k := by
  induction k with
  | zero => exact Nat.zero_lt_one
  | succ k ih =>
    have := byte_lt s (k + 1)
    rw [Nat.pow_succ]
    show nb s k * 256 + _ < _
    omega
theorem nb6 (s : ByteArray) : nb s 6 < 281474976710656 := by simpa using nb_lt s 6
theorem nb_top (s : ByteArray) : (nb s 6 < 17592186044416) ↔ byte s 1 ≤ 15 := by
  have h0 : nb s 1 = byte s 1 := by show 0 * 256 + byte s 1 = byte s 1; omega
  have b2 := byte_lt s 2
  have b3 := byte_lt s 3
  have b4 := byte_lt s 4
  have b5 := byte_lt s 5
  have b6 := byte_lt s 6
  have e : nb s 6 = ((((nb s 1 * 256 + byte s 2) * 256 + byte s 3) * 256 + byte s 4) * 256 + byte s 5) * 256 + byte s 6 := rfl
  rw [e, h0]
  omega
theorem or_byte (n c : Nat) (hc : c < 256) : (n * 256) ||| c = n * 256 + c := by
  have := Nat.two_pow_add_eq_or_of_lt (i := 8) (b := c) (by simpa using hc) n
  rw [Nat.mul_comm] at this
  simpa using this.symm
/-- The bit at place p of n. -/
def bt (n p : Nat) : Nat := n / 2 ^ p % 2
theorem bt_lt (n p : Nat) : bt n p < 2 := Nat.mod_lt _ (by decide)
/-- The bits at places 2j + d, j below i. -/
def X (n d : Nat) : Nat → Nat
  | 0 => 0
  | i + 1 => X n d i + bt n (2 * i + d) * 2 ^ i
theorem X_lt (n d i : Nat) : X n d i < 2 ^ i := by
  induction i with
  | zero => exact Nat.zero_lt_one
  | succ i ih =>
    have := bt_lt n (2 * i + d)
    rw [Nat.pow_succ]
    show X n d i + bt n (2 * i + d) * 2 ^ i < _
    have h2 : bt n (2 * i + d) = 0 ∨ bt n (2 * i + d) = 1 := by omega
    rcases h2 with h | h <;> rw [h] <;> omega
/-- The bits at places 2j + d, t of them, from place 21 down. -/
def Qd (n d : Nat) : Nat → Nat
  | 0 => 0
  | t + 1 => Qd n d t * 2 + bt n (2 * (21 - t) + d)
theorem step_alg (x P q b : Nat) : x + P * (q * 2 + b) = x + b * P + P * 2 * q := by
  have e3 : P * (q * 2 + b) = P * q * 2 + P * b := by rw [Nat.mul_add, Nat.mul_assoc]
  have e4 : P * 2 * q = P * q * 2 := by rw [Nat.mul_assoc, Nat.mul_comm 2 q, ← Nat.mul_assoc]
  rw [e3, e4, Nat.mul_comm b P]
  generalize P * q * 2 = u
  generalize P * b = v
  omega
theorem Q_X (n d : Nat) (t : Nat) : ∀ i, i + t = 22 → X n d i + 2 ^ i * Qd n d t = X n d 22 := by
  induction t with
  | zero =>
    intro i hi
    obtain rfl : i = 22 := hi
    show X n d 22 + _ * 0 = _
    rw [Nat.mul_zero, Nat.add_zero]
  | succ t ih =>
    intro i hi
    rw [← ih (i + 1) (by omega), Nat.pow_succ]
    show X n d i + 2 ^ i * (Qd n d t * 2 + bt n (2 * (21 - t) + d)) = X n d i + bt n (2 * i + d) * 2 ^ i + 2 ^ i * 2 * Qd n d t
    have e : 21 - t = i := by omega
    rw [e]
    exact step_alg _ _ _ _
theorem Q_all (n d : Nat) : Qd n d 22 = X n d 22 := by
  have h := Q_X n d 22 0 rfl
  rw [← h]
  show _ = 0 + 2 ^ 0 * Qd n d 22
  rw [Nat.pow_zero, Nat.one_mul, Nat.zero_add]
theorem Q_lt (n d t : Nat) : Qd n d t < 2 ^ t := by
  induction t with
  | zero => exact Nat.zero_lt_one
  | succ t ih =>
    have := bt_lt n (2 * (21 - t) + d)
    rw [Nat.pow_succ]
    show Qd n d t * 2 + _ < _
    omega
theorem two_bits (n i : Nat) : n / 2 ^ (2 * i) % 4 / 2 = bt n (2 * i + 1) ∧ n / 2 ^ (2 * i) % 4 % 2 = bt n (2 * i + 0) := by
  unfold bt
  rw [Nat.add_zero, Nat.pow_succ, ← Nat.div_div_eq_div_mul]
  generalize n / 2 ^ (2 * i) = a
  constructor <;> omega
end Go.Proofs.Ythhmjfngldfmjaa
