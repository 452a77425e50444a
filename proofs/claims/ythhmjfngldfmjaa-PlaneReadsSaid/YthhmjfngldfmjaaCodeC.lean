/- Contracts of plane.Read and of the reference's Read; no condition. -/
import Derived.Test.YthhmjfngldfmjaaCodeB
import Derived.Test.YthhmjfngldfmjaaBit
import Derived.Lib.ConvBytes
namespace Go.Proofs.Ythhmjfngldfmjaa
open Go.RowKit
set_option linter.unusedVariables false
set_option linter.unusedSimpArgs false

theorem is_any (x y : Int) (w : World) : Calls Try.prog 11 #[.agg #[.int .i64 x, .int .i64 y]] w fun e w' => e = .returned (.bool (inP x && inP y)) ∧ Below w.heap.size w w' := by
  have hb := (Below.refl w.heap.size w).alloc (Nat.le_refl _) (.cells #[.int .i64 x, .int .i64 y] 28)
  by_cases hx1 : -1048576 ≤ x
  · by_cases hx2 : x ≤ 1048576
    · have hx : inP x = true := decide_eq_true ⟨hx1, hx2⟩
      rw [hx, Bool.true_and]
      by_cases hy1 : -1048576 ≤ y
      · by_cases hy2 : y ≤ 1048576
        · have hy : inP y = true := decide_eq_true ⟨hy1, hy2⟩
          rw [hy]
          clear hx hy
          go_enter Try.func11, Try.ntmps11
          go_wp2_with fail
          go_ret
          exact ⟨rfl, hb⟩
        · have hy : inP y = false := decide_eq_false (fun h => hy2 h.2)
          rw [hy]
          clear hx hy
          go_enter Try.func11, Try.ntmps11
          go_wp2_with fail
          go_ret
          exact ⟨rfl, hb⟩
      · have hy : inP y = false := decide_eq_false (fun h => hy1 h.1)
        rw [hy]
        clear hx hy
        go_enter Try.func11, Try.ntmps11
        go_wp2_with fail
        go_ret
        exact ⟨rfl, hb⟩
    · have hx : inP x = false := decide_eq_false (fun h => hx2 h.2)
      rw [hx, Bool.false_and]
      clear hx
      go_enter Try.func11, Try.ntmps11
      go_wp2_with fail
      go_ret
      exact ⟨rfl, hb⟩
  · have hx : inP x = false := decide_eq_false (fun h => hx1 h.1)
    rw [hx, Bool.false_and]
    clear hx
    go_enter Try.func11, Try.ntmps11
    go_wp2_with fail
    go_ret
    exact ⟨rfl, hb⟩

/-- A text that is a row's form: seven bytes, the first 'p', the second 15 at most. -/
def form (s : ByteArray) : Prop := s.size = 7 ∧ byte s 0 = 112 ∧ byte s 1 ≤ 15
/-- The parts that a row's number bears. -/
def px (s : ByteArray) (d : Nat) : Int := (X (nb s 6) d 22 : Int) - 1048576
theorem px_b (s : ByteArray) (d : Nat) : (px s d).natAbs < 8388608 := by
  have : X (nb s 6) d 22 < 4194304 := X_lt (nb s 6) d 22
  unfold px
  omega
theorem byte_sub (s : ByteArray) (hs : s.size = 7) (k : Nat) (hk : k < 6) : ((s.extract 1 7).data.toList.getD k 0) = s.data.toList.getD (k + 1) 0 := by
  have hl : s.data.toList.length = 7 := by simpa using hs
  have e : (s.extract 1 7).data.toList = (s.data.toList.drop 1).take 6 := by
    simp [ByteArray.extract, ByteArray.copySlice]
  rw [e, List.getD_eq_getElem?_getD, List.getD_eq_getElem?_getD, List.getElem?_take, if_pos hk, List.getElem?_drop, Nat.add_comm]
theorem sub_size (s : ByteArray) (hs : s.size = 7) : (s.extract 1 7).size = 6 := by
  simp [ByteArray.size_extract, hs]

set_option maxHeartbeats 1000000 in
theorem read_no (s : ByteArray) (w : World) (h : ¬ form s) : Calls Try.prog 5 #[.string s] w fun e w' => e = .returned (.tuple #[.complex .f64 0 0, .int .i64 5]) ∧ Below w.heap.size w w' := by
  have hb := Below.refl w.heap.size w
  by_cases hs : s.size = 7
  · have h2 : ((s.size : Int) != 7) = false := by simp [hs]
    have h3 : (0 : Int) < s.size := by omega
    have h4 : (1 : Int) < s.size := by omega
    have g0 := byte_get s 0 (by omega)
    have g1 := byte_get s 1 (by omega)
    by_cases h0 : byte s 0 = 112
    · have h5 : ¬ byte s 1 ≤ 15 := fun e => h ⟨hs, h0, e⟩
      have k0 : (((byte s 0 : Nat) : Int) != 112) = false := by simp [h0]
      have k1 : (15 : Int) < ((byte s 1 : Nat) : Int) := by omega
      clear h h0 h5
      go_enter Try.func5, Try.ntmps5
      go_wp2_with fail
      go_ret2
      exact ⟨rfl, hb⟩
    · have k0 : (((byte s 0 : Nat) : Int) != 112) = true := by simp; omega
      clear h h0
      go_enter Try.func5, Try.ntmps5
      go_wp2_with fail
      go_ret2
      exact ⟨rfl, hb⟩
  · have h2 : ((s.size : Int) != 7) = true := by simp; omega
    clear h
    go_enter Try.func5, Try.ntmps5
    go_wp2_with fail
    go_ret2
    exact ⟨rfl, hb⟩

theorem and3 (n p : Nat) (hn : n < 17592186044416) : bits .and .u64 ((n : Int) / 2 ^ p) 3 = ((n / 2 ^ p % 4 : Nat) : Int) := by
  have hq : n / 2 ^ p < 18446744073709551616 := Nat.lt_of_le_of_lt (Nat.div_le_self _ _) (by omega)
  have e := u64_and_nat (n / 2 ^ p) 3 hq (by omega)
  have e2 : (n / 2 ^ p) &&& 3 = n / 2 ^ p % 4 := Nat.and_two_pow_sub_one_eq_mod _ 2
  rw [e2] at e
  rw [← e]
  congr 1
theorem and1 (m : Nat) (hm : m < 4) : bits .and .i64 ((m : Nat) : Int) 1 = ((m % 2 : Nat) : Int) := by
  have : m = 0 ∨ m = 1 ∨ m = 2 ∨ m = 3 := by omega
  rcases this with rfl | rfl | rfl | rfl <;> decide
theorem w64 {x : Int} (h1 : -9223372036854775808 ≤ x) (h2 : x ≤ 9223372036854775807) : wrap64 x = x := by
  unfold wrap64
  omega
theorem step1 (n j : Nat) (hn : n < 17592186044416) (hj : j < 22) : wrap64 ((X n 1 j : Int) - 1048576 + wrap64 (wrap64 (bits .and .u64 ((n : Int) / 2 ^ (2 * j)) 3) / 2 * 2 ^ j)) = (X n 1 (j + 1) : Int) - 1048576 := by
  obtain ⟨tb1, tb2⟩ := two_bits n j
  have xl := X_lt n 1 j
  have hpj : 2 ^ j ≤ 2097152 := by
    have : 2 ^ j ≤ 2 ^ 21 := Nat.pow_le_pow_right (by omega) (by omega)
    simpa using this
  have hs : X n 1 (j + 1) = X n 1 j + bt n (2 * j + 1) * 2 ^ j := rfl
  have hb := bt_lt n (2 * j + 1)
  rw [and3 _ _ hn, hs]
  have h4 : n / 2 ^ (2 * j) % 4 < 4 := Nat.mod_lt _ (by decide)
  rw [← tb1]
  rw [← tb1] at hb
  generalize n / 2 ^ (2 * j) % 4 = m at *
  rw [w64 (x := (m : Int)) (by omega) (by omega)]
  have e1 : (m : Int) / 2 * 2 ^ j = ((m / 2 * 2 ^ j : Nat) : Int) := by simp
  rw [e1]
  have hle : m / 2 * 2 ^ j ≤ 2097152 := by
    have h3 : m / 2 = 0 ∨ m / 2 = 1 := by omega
    rcases h3 with h | h <;> rw [h] <;> omega
  generalize m / 2 * 2 ^ j = q at *
  rw [w64 (x := (q : Int)) (by omega) (by omega), w64 (by omega) (by omega)]
  omega
theorem step0 (n j : Nat) (hn : n < 17592186044416) (hj : j < 22) : wrap64 ((X n 0 j : Int) - 1048576 + wrap64 (bits .and .i64 (wrap64 (bits .and .u64 ((n : Int) / 2 ^ (2 * j)) 3)) 1 * 2 ^ j)) = (X n 0 (j + 1) : Int) - 1048576 := by
  obtain ⟨tb1, tb2⟩ := two_bits n j
  have xl := X_lt n 0 j
  have hpj : 2 ^ j ≤ 2097152 := by
    have : 2 ^ j ≤ 2 ^ 21 := Nat.pow_le_pow_right (by omega) (by omega)
    simpa using this
  have hs : X n 0 (j + 1) = X n 0 j + bt n (2 * j + 0) * 2 ^ j := rfl
  have hb := bt_lt n (2 * j + 0)
  rw [and3 _ _ hn, hs]
  have h4 : n / 2 ^ (2 * j) % 4 < 4 := Nat.mod_lt _ (by decide)
  rw [← tb2]
  rw [← tb2] at hb
  generalize n / 2 ^ (2 * j) % 4 = m at *
  rw [w64 (x := (m : Int)) (by omega) (by omega), and1 m h4]
  have e1 : ((m % 2 : Nat) : Int) * 2 ^ j = ((m % 2 * 2 ^ j : Nat) : Int) := by simp
  rw [e1]
  have hle : m % 2 * 2 ^ j ≤ 2097152 := by
    have h3 : m % 2 = 0 ∨ m % 2 = 1 := by omega
    rcases h3 with h | h <;> rw [h] <;> omega
  generalize m % 2 * 2 ^ j = q at *
  rw [w64 (x := (q : Int)) (by omega) (by omega), w64 (by omega) (by omega)]
  omega

def okP (s : ByteArray) : Prop := inP (px s 1) = true ∧ inP (px s 0) = true
theorem below_bytes (w : World) (s : ByteArray) : Below w.heap.size w (Lib.bytesWorld w 5 s) :=
  ⟨rfl, rfl, rfl, by rw [Lib.bytesWorld_size]; omega, fun k hk => Lib.bytesWorld_at_old w 5 s k hk⟩

set_option maxRecDepth 100000 in
set_option maxHeartbeats 4000000 in
theorem read_yes (s : ByteArray) (w : World) (h : form s) (z : Value) (k : Int) (hz : okP s → z = .complex .f64 (F (px s 1)) (F (px s 0)) ∧ k = 0) (hz2 : ¬ okP s → z = .complex .f64 0 0 ∧ k = 5) :
    Calls Try.prog 5 #[.string s] w fun e w' => e = .returned (.tuple #[z, .int .i64 k]) ∧ Below w.heap.size w w' := by
  obtain ⟨hs, h0, h1⟩ := h
  have h2 : ((s.size : Int) != 7) = false := by simp [hs]
  have h3 : (0 : Int) < s.size := by omega
  have h4 : (1 : Int) < s.size := by omega
  have g0 := byte_get s 0 (by omega)
  have g1 := byte_get s 1 (by omega)
  have k0 : (((byte s 0 : Nat) : Int) != 112) = false := by simp [h0]
  have k1 : ¬ (15 : Int) < ((byte s 1 : Nat) : Int) := by omega
  have htop := Lib.hid ((nb_top s).2 h1)
  have HS := Lib.hid hs
  have ht := sub_size s hs
  have kc := fun (W : World) => Lib.run_convert_string_bytes (P := Try.prog) W 9 38 5 (s.extract 1 7) Try.underlying9 Try.underlying38 Try.underlying5
  rw [ht] at kc
  have HC : Hid (∀ k, k < 6 → (Lib.bytesWorld w 5 (s.extract 1 7)).cell? ⟨w.heap.size, k, none⟩ = some (.int .u8 ((byte s (k + 1) : Nat) : Int))) := by
    intro k hk
    rw [Lib.bytesWorld_cell w 5 _ k (by omega), byte_sub s hs k hk]
    rfl
  have HB := Lib.hid (below_bytes w (s.extract 1 7))
  generalize hcap : grownCap w 6 0 5 = cap at *
  clear h0 h1
  go_enter Try.func5, Try.ntmps5
  go_wp2_with fail
  generalize Lib.bytesWorld w 5 (s.extract 1 7) = w1 at *
  clear kc g0 g1 k0 k1 hcap
  go_loopw [4, 29] (fun n i wr => ∃ j : Nat, i = .int .i64 (j : Int) ∧ j ≤ 6 ∧ n = .int .u64 ((nb s j : Nat) : Int) ∧ w1 = wr) (fun _ i _ => 6 - (intOf i).toNat)
  case atStart => exact ⟨0, rfl, by omega, rfl, rfl⟩
  case round =>
    obtain ⟨j, rfl, hj, rfl, rfl⟩ := hrel
    by_cases hlt : j < 6
    · have hji : (j : Int) < 6 := by omega
      have hc := HC.out j hlt
      have hbl := byte_lt s (j + 1)
      have hnl : nb s j < 1099511627776 := Nat.lt_of_lt_of_le (nb_lt s j) (by
        have : 256 ^ j ≤ 256 ^ 5 := Nat.pow_le_pow_right (by omega) (by omega)
        simpa using this)
      have hor : Hid (bits .or .u64 (((nb s j : Nat) : Int) * 256) ((byte s (j + 1) : Nat) : Int) = ((nb s (j + 1) : Nat) : Int)) := by
        have e := u64_or_nat (nb s j * 256) (byte s (j + 1)) (by omega) (by omega)
        rw [or_byte _ _ hbl] at e
        show _ = _
        rw [Int.natCast_mul] at e
        exact e
      generalize nb s j = q at *
      generalize byte s (j + 1) = c at *
      go_wp2_with fail
      go_roundw
      case rel => exact ⟨j + 1, by go_num, by omega, by rw [hor.out], trivial⟩
      case measure => simp [intOf]; omega
    · have hji : ¬ (j : Int) < 6 := by omega
      have hj2 : j = 6 := by omega
      subst hj2
      clear HC hlt hji hj
      have hn := htop.out
      generalize hnn : nb s 6 = n at *
      go_wp2_with fail
      go_loopw [7, 8, 39] (fun x y i wr => ∃ j : Nat, i = .int .i64 (j : Int) ∧ j ≤ 22 ∧ x = .int .i64 ((X n 1 j : Int) - 1048576) ∧ y = .int .i64 ((X n 0 j : Int) - 1048576) ∧ w1 = wr) (fun _ _ i _ => 22 - (intOf i).toNat)
      case atStart => exact ⟨0, rfl, by omega, rfl, rfl, rfl⟩
      case round =>
        obtain ⟨j, rfl, hj, rfl, rfl, rfl⟩ := hrel
        by_cases hlt : j < 22
        · have hji : (j : Int) < 22 := by omega
          have hs1 := Lib.hid (step1 n j hn hlt)
          have hs0 := Lib.hid (step0 n j hn hlt)
          have xl1 := X_lt n 1 j
          have xl0 := X_lt n 0 j
          have hpj : 2 ^ j ≤ 2097152 := by
            have : 2 ^ j ≤ 2 ^ 21 := Nat.pow_le_pow_right (by omega) (by omega)
            simpa using this
          have xb1 : X n 1 j ≤ 2097152 := by omega
          have xb0 : X n 0 j ≤ 2097152 := by omega
          clear xl1 xl0 hpj
          go_wp2_with fail
          go_roundw
          case rel => exact ⟨j + 1, by go_num, by omega, by rw [hs1.out], by rw [hs0.out], trivial⟩
          case measure => simp [intOf]; omega
        · have hji : ¬ (j : Int) < 22 := by omega
          have hj2 : j = 22 := by omega
          subst hj2
          have hF : ∀ n, floatOfInt .f64 n = F n := fun _ => rfl
          have e1 : ((X n 1 22 : Int) - 1048576) = px s 1 := by unfold px; rw [hnn]
          have e0 : ((X n 0 22 : Int) - 1048576) = px s 0 := by unfold px; rw [hnn]
          rw [e1, e0]
          have hr := Lib.hid (right_F (px s 1) (px s 0) (px_b s 1) (px_b s 0))
          clear e1 e0 hlt hji hj hn htop
          by_cases hok : okP s
          · obtain ⟨rfl, rfl⟩ := hz hok
            have hc : (if inP (px s 1) = true ∧ inP (px s 0) = true then (0 : Int) else 1) = 0 := if_pos hok
            rw [hc] at hr
            clear hz hz2 hc
            go_wp2_with fail
            refine (hr.out _).mono ?_
            rintro e w2 ⟨rfl, rfl⟩
            go_wp2_with fail
            go_ret2
            exact ⟨rfl, HB.out⟩
          · obtain ⟨rfl, rfl⟩ := hz2 hok
            have hc : (if inP (px s 1) = true ∧ inP (px s 0) = true then (0 : Int) else 1) = 1 := if_neg hok
            rw [hc] at hr
            clear hz hz2 hc
            go_wp2_with fail
            refine (hr.out _).mono ?_
            rintro e w2 ⟨rfl, rfl⟩
            go_wp2_with fail
            go_ret2
            exact ⟨rfl, HB.out⟩
end Go.Proofs.Ythhmjfngldfmjaa
