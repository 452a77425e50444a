/- The plain laws of numbers' forms: what is put is read, each number has one form; no condition but that the number is below two to the 64th. -/
import Derived.Test.YtjfpfgogbpiknaaCodeE
namespace Go.Proofs.Ytjfpfgogbpiknaa
open Go.RowKit
set_option linter.unusedVariables false
set_option linter.unusedSimpArgs false

theorem pow_pos' (i : Nat) : 0 < 128 ^ i := Nat.pow_pos (by decide)

/-- What is read as a number is its form. -/
theorem dec_enc : ∀ (bs : List Nat) (i n v : Nat) (r : List Nat), (∀ x ∈ bs, x < 256) → dec i n bs = .inr (v, r) → ∃ m, v = n + m * 128 ^ i ∧ bs = enc m ++ r ∧ (0 < i → 0 < m) := by
  intro bs
  induction bs with
  | nil => intro i n v r _ h; simp [dec] at h
  | cons x t ih =>
    intro i n v r hx h
    rw [dec] at h
    have hx2 := hx x (by simp)
    by_cases hb : (i = 9 ∧ 1 < x) ∨ (0 < i ∧ x = 0)
    · rw [if_pos hb] at h; cases h
    · rw [if_neg hb] at h
      by_cases h8 : x < 128
      · rw [if_pos h8] at h
        injection h with h
        injection h with h1 h2
        subst h1 h2
        exact ⟨x, rfl, by rw [enc_small h8]; rfl, by omega⟩
      · rw [if_neg h8] at h
        obtain ⟨m, hv, hb2, hm⟩ := ih _ _ _ _ (fun y hy => hx y (List.mem_cons_of_mem _ hy)) h
        have hm0 := hm (by omega)
        refine ⟨x % 128 + 128 * m, ?_, ?_, fun _ => by omega⟩
        · rw [hv, Nat.pow_succ, Nat.add_mul]
          have : m * (128 ^ i * 128) = 128 * m * 128 ^ i := by rw [Nat.mul_comm (128 ^ i) 128, ← Nat.mul_assoc, Nat.mul_comm m 128]
          omega
        · rw [enc_big (n := x % 128 + 128 * m) (by omega), hb2]
          have e1 : (x % 128 + 128 * m) % 128 + 128 = x := by omega
          have e2 : (x % 128 + 128 * m) / 128 = m := by omega
          rw [e1, e2]; rfl

/-- What is put is read. -/
theorem enc_dec (m : Nat) : ∀ (i n : Nat) (r : List Nat), i ≤ 9 → (0 < i → 0 < m) → m * 128 ^ i < 18446744073709551616 → dec i n (enc m ++ r) = .inr (n + m * 128 ^ i, r) := by
  induction m using Nat.strongRecOn with
  | _ m ih =>
    intro i n r hi hm hb
    by_cases h8 : m < 128
    · rw [enc_small h8]
      show dec i n (m :: r) = _
      rw [dec, if_neg, if_pos h8]
      rintro (⟨rfl, h1⟩ | ⟨h1, h2⟩)
      · have : 2 * 128 ^ 9 ≤ m * 128 ^ 9 := Nat.mul_le_mul_right _ (by omega)
        omega
      · have := hm h1; omega
    · rw [enc_big (by omega)]
      show dec i n ((m % 128 + 128) :: (enc (m / 128) ++ r)) = _
      have hi9 : i ≠ 9 := by
        rintro rfl
        have : 2 * 128 ^ 9 ≤ m * 128 ^ 9 := Nat.mul_le_mul_right _ (by omega)
        omega
      have hdm : 128 * (m / 128) + m % 128 = m := Nat.div_add_mod m 128
      have e : m * 128 ^ i = m % 128 * 128 ^ i + m / 128 * 128 ^ (i + 1) := by
        rw [Nat.pow_succ, ← hdm, Nat.add_mul]
        have h1 : (128 * (m / 128) + m % 128) % 128 = m % 128 := by omega
        have h2 : (128 * (m / 128) + m % 128) / 128 = m / 128 := by omega
        rw [h1, h2, Nat.add_comm]
        congr 1
        rw [Nat.mul_comm (128 ^ i) 128, ← Nat.mul_assoc, Nat.mul_comm (m / 128) 128]
      rw [dec, if_neg (by omega), if_neg (by omega)]
      have e1 : (m % 128 + 128) % 128 = m % 128 := by omega
      rw [e1, ih (m / 128) (by omega) (i + 1) _ r (by omega) (fun _ => by omega) (by omega), e, Nat.add_assoc]

theorem enc_dec0 {m : Nat} (r : List Nat) (h : m < 18446744073709551616) : dec 0 0 (enc m ++ r) = .inr (m, r) := by
  have := enc_dec m 0 0 r (by omega) (by omega) (by simpa using h)
  simpa using this

/-- A form that is cut off is too short. -/
theorem cut_dec (m : Nat) : ∀ (i n k : Nat), i ≤ 9 → (0 < i → 0 < m) → m * 128 ^ i < 18446744073709551616 → k < (enc m).length → dec i n ((enc m).take k) = .inl 2 := by
  induction m using Nat.strongRecOn with
  | _ m ih =>
    intro i n k hi hm hb hk
    match k, hk with
    | 0, _ => rfl
    | k + 1, hk =>
      by_cases h8 : m < 128
      · rw [enc_small h8] at hk; simp at hk
      · rw [enc_big (by omega)] at hk ⊢
        rw [List.take_succ_cons]
        have hi9 : i ≠ 9 := by
          rintro rfl
          have : 2 * 128 ^ 9 ≤ m * 128 ^ 9 := Nat.mul_le_mul_right _ (by omega)
          omega
        have hle : m / 128 * 128 ^ (i + 1) ≤ m * 128 ^ i := by
          rw [Nat.pow_succ, Nat.mul_comm (128 ^ i) 128, ← Nat.mul_assoc]
          exact Nat.mul_le_mul_right _ (Nat.div_mul_le_self m 128)
        rw [dec, if_neg (by omega), if_neg (by omega)]
        exact ih (m / 128) (by omega) (i + 1) _ k (by omega) (fun _ => by omega) (by omega) (by simpa using hk)

theorem enc_ne (n : Nat) : 0 < (enc n).length := by
  by_cases h : n < 128
  · rw [enc_small h]; simp
  · rw [enc_big (by omega)]; simp

/-- Which number is read, and whose form it was. -/
theorem one_of {xs : List Nat} (hx : ∀ x ∈ xs, x < 256) : (rDone (uRest xs 0) (uK xs 0) ≠ 0 → uNum xs 0 = 0 ∨ rDone (uRest xs 0) (uK xs 0) = 3) ∧ (rDone (uRest xs 0) (uK xs 0) = 0 → enc (uNum xs 0) = xs) := by
  unfold uNum uRest uK
  simp only [if_true]
  rcases hd : dec 0 0 xs with e | ⟨v, r⟩
  · simp only [true_or, implies_true, true_and]
    intro h
    exfalso
    have : ∀ (bs : List Nat) (i n : Nat) (e : Int), dec i n bs = .inl e → e = 2 ∨ e = 3 := by
      intro bs
      induction bs with
      | nil => intro i n e h; rw [dec] at h; injection h with h; exact .inl h.symm
      | cons x t ih =>
        intro i n e h
        rw [dec] at h
        split at h
        · injection h with h; exact .inr h.symm
        · split at h
          · cases h
          · exact ih _ _ _ h
    rcases this _ _ _ _ hd with rfl | rfl <;> simp [rDone] at h
  · obtain ⟨m, hv, hb, _⟩ := dec_enc _ _ _ _ _ hx hd
    simp only [rDone, if_true]
    by_cases hr : 0 < r.length
    · rw [if_pos hr]; simp
    · rw [if_neg hr]
      have : r = [] := List.eq_nil_of_length_eq_zero (by omega)
      subst this
      simp at hv hb
      subst hv
      simp [← hb]

theorem take_enc {a b : Nat} (ha : a < 18446744073709551616) (hb : b < 18446744073709551616) (h : enc a = (enc b).take (enc a).length) : a = b := by
  have h1 := enc_dec0 ((enc b).drop (enc a).length) ha
  have h2 : enc a ++ (enc b).drop (enc a).length = enc b := by
    conv => lhs; lhs; rw [h]
    exact List.take_append_drop _ _
  rw [h2] at h1
  have h3 := enc_dec0 [] hb
  rw [List.append_nil] at h3
  rw [h3] at h1
  injection h1 with h1
  injection h1 with h1 _
  exact h1.symm
theorem enc_inj {a b : Nat} (ha : a < 18446744073709551616) (hb : b < 18446744073709551616) (h : enc a = enc b) : a = b :=
  take_enc ha hb (by rw [← h, List.take_length])
theorem enc_mono (a : Nat) : ∀ b, a ≤ b → (enc a).length ≤ (enc b).length := by
  induction a using Nat.strongRecOn with
  | _ a ih =>
    intro b hab
    by_cases h : a < 128
    · rw [enc_small h]; have := enc_ne b; simp only [List.length_singleton]; omega
    · rw [enc_big (n := a) (by omega), enc_big (n := b) (by omega)]
      have := ih (a / 128) (by omega) (b / 128) (by omega)
      simpa using this
end Go.Proofs.Ytjfpfgogbpiknaa
