/- The walk of QuorumMeets; no condition. -/
import Derived.Test.YtleclkggdhofmaaMarks
namespace Go.Proofs.Ytleclkggdhofmaa
open Go.RowKit
set_option linter.unusedVariables false
set_option linter.unusedSimpArgs false

def andM (x y : Nat → Bool) : Nat → Bool := fun k => x k && y k
def goodM (x y z : Nat → Bool) : Nat → Bool := fun k => x k && y k && !z k
theorem cb_and (x y : Nat → Bool) (k : Nat) : cb x k + cb y k ≤ k + cb (andM x y) k := by
  induction k with
  | zero => simp [cb]
  | succ k ih =>
    unfold cb andM
    unfold andM at ih
    cases x k <;> cases y k <;> simp <;> omega
theorem cb_good (x y z : Nat → Bool) (k : Nat) : cb (andM x y) k ≤ cb (goodM x y z) k + cb z k := by
  induction k with
  | zero => simp [cb]
  | succ k ih =>
    unfold cb andM goodM
    unfold andM goodM at ih
    cases x k <;> cases y k <;> cases z k <;> simp <;> omega
theorem cb_step (M : Nat → Bool) (j : Nat) (b : Bool) (h : M j = b) : ((cb M (j + 1) : Nat) : Int) = ((cb M j : Nat) : Int) + if b = true then 1 else 0 := by
  cases b <;> simp [cb, h]
theorem tm2 (n : Nat) (h : 1 ≤ n ∧ n ≤ 4) : tm 2 (n : Int) = ((2 * n + 1 : Nat) : Int) := by
  unfold tm
  rw [if_pos (by omega)]
  omega
theorem tm1 (n : Nat) (h : 1 ≤ n ∧ n ≤ 4) : tm 1 (n : Int) = ((n + 1 : Nat) : Int) := by
  unfold tm
  rw [if_pos (by omega)]
  omega

set_option maxHeartbeats 4000000 in
theorem meets_walk (f : Int) (A1 : Option Addr) (c1 : Nat) (u1 : List Nat) (A2 : Option Addr) (c2 : Nat) (u2 : List Nat) (A3 : Option Addr) (c3 : Nat) (u3 : List Nat) (w : World)
    (r1 : RU w w.heap.size A1 c1 u1) (r2 : RU w w.heap.size A2 c2 u2) (r3 : RU w w.heap.size A3 c3 u3) :
    Calls Try.prog 4 #[.int .i64 f, .slice A1 u1.length c1, .slice A2 u2.length c2, .slice A3 u3.length c3] w fun e w' => e = .returned (.bool true) ∧ Below w.heap.size w w' := by
  by_cases h1 : f < 1
  · go_enter Try.func4, Try.ntmps4
    go_wp2_with fail
    refine (alive_true _).mono ?_
    rintro e w1 ⟨rfl, hb⟩
    have HB := Lib.hid hb
    clear hb
    go_wp2_with fail
    go_ret
    exact ⟨rfl, HB.out⟩
  by_cases h2 : 4 < f
  · go_enter Try.func4, Try.ntmps4
    go_wp2_with fail
    refine (alive_true _).mono ?_
    rintro e w1 ⟨rfl, hb⟩
    have HB := Lib.hid hb
    clear hb
    go_wp2_with fail
    go_ret
    exact ⟨rfl, HB.out⟩
  by_cases h3 : (100 : Int) < (u1.length : Int)
  · go_enter Try.func4, Try.ntmps4
    go_wp2_with fail
    refine (alive_true _).mono ?_
    rintro e w1 ⟨rfl, hb⟩
    have HB := Lib.hid hb
    clear hb
    go_wp2_with fail
    go_ret
    exact ⟨rfl, HB.out⟩
  by_cases h4 : (100 : Int) < (u2.length : Int)
  · go_enter Try.func4, Try.ntmps4
    go_wp2_with fail
    refine (alive_true _).mono ?_
    rintro e w1 ⟨rfl, hb⟩
    have HB := Lib.hid hb
    clear hb
    go_wp2_with fail
    go_ret
    exact ⟨rfl, HB.out⟩
  by_cases h5 : (100 : Int) < (u3.length : Int)
  · go_enter Try.func4, Try.ntmps4
    go_wp2_with fail
    refine (alive_true _).mono ?_
    rintro e w1 ⟨rfl, hb⟩
    have HB := Lib.hid hb
    clear hb
    go_wp2_with fail
    go_ret
    exact ⟨rfl, HB.out⟩
  obtain ⟨n, rfl⟩ := Int.eq_ofNat_of_zero_le (show 0 ≤ f by omega)
  have hn : 1 ≤ n ∧ n ≤ 4 := by omega
  have hN := Lib.hid (fun w => n_any (n : Int) w)
  rw [tm3 n hn] at hN
  have hM := Lib.hid (fun w => most_any (n : Int) w)
  rw [tm2 n hn] at hM
  have hW := Lib.hid (fun w => weak_any (n : Int) w)
  rw [tm1 n hn] at hW
  have m1 := Lib.hid (fun (N : Nat) (hN : N ≤ 100) => marks_any N A1 c1 u1 w _ r1 (Nat.le_refl _) hN (by omega))
  have R2 := Lib.hid r2
  have R3 := Lib.hid r3
  clear r1 r2 r3
  have l2 : u2.length ≤ 100 := by omega
  have l3 : u3.length ≤ 100 := by omega
  have hle : ((2 * n + 1 : Nat) : Int) ≤ ((3 * n + 1 : Nat) : Int) - (n : Int) := by omega
  have q4 : 3 * n + 1 ≤ 13 := by omega
  have q1 : Hid (3 * n + 1 ≤ 13) := by show _ ≤ _; omega
  have q2 : Hid (2 * n + 1 ≤ 9) := by show _ ≤ _; omega
  have q3 : Hid (n + 1 ≤ 5) := by show _ ≤ _; omega
  have key : Hid (∀ a b : Nat, 2 * (2 * n + 1) ≤ 3 * n + 1 + a → a ≤ b + n → n + 1 ≤ a ∧ 1 ≤ b) := by
    intro a b h1 h2
    omega
  generalize 3 * n + 1 = N at *
  generalize 2 * n + 1 = M at *
  generalize n + 1 = K at *
  go_enter Try.func4, Try.ntmps4
  go_wp2_with fail
  refine (hN.out _).mono ?_
  rintro e w8 ⟨rfl, rfl⟩
  go_wp2_with fail
  refine (m1.out N (by have := q1.out; omega)).mono ?_
  rintro e w1 ⟨rfl, hb1, hB1⟩
  have X := Lib.hid hb1
  have W1 := Lib.hid hB1
  have g1lt : w.heap.size < w1.heap.size := hb1.lt
  clear hb1 hB1 m1
  go_wp2_with fail
  refine (marks_any N A2 c2 u2 w1 _ (R2.out.below W1.out) W1.out.size (by have := q1.out; omega) l2).mono ?_
  rintro e w2 ⟨rfl, hb1, hB1⟩
  have Y := Lib.hid hb1
  have X2 := Lib.hid (X.out.below hB1 g1lt)
  have W2 := Lib.hid (W1.out.trans (hB1.mono W1.out.size))
  have g2lt : w1.heap.size < w2.heap.size := hb1.lt
  clear hb1 hB1 X W1
  go_wp2_with fail
  refine (marks_any N A3 c3 u3 w2 _ (R3.out.below W2.out) W2.out.size (by have := q1.out; omega) l3).mono ?_
  rintro e w3 ⟨rfl, hb1, hB1⟩
  have Z := Lib.hid hb1
  have X3 := Lib.hid (X2.out.below hB1 (by omega))
  have Y3 := Lib.hid (Y.out.below hB1 g2lt)
  have W3 := Lib.hid (W2.out.trans (hB1.mono W2.out.size))
  clear hb1 hB1 X2 Y W2
  generalize mark u1 u1.length = x at *
  generalize mark u2 u2.length = y at *
  generalize mark u3 u3.length = z at *
  have hsz3 : w.heap.size ≤ w3.heap.size := W3.out.size
  generalize hg1 : w.heap.size = g1 at *
  generalize w1.heap.size = g2 at *
  generalize w2.heap.size = g3 at *
  have ka := cb_and x y N
  have kg := cb_good x y z N
  go_wp2_with fail
  refine (count_bools _ N x _ X3.out (by have := q1.out; omega)).mono ?_
  rintro e w8 ⟨rfl, rfl⟩
  go_wp2_with fail
  refine (hM.out _).mono ?_
  rintro e w8 ⟨rfl, rfl⟩
  by_cases t1 : ((cb x N : Nat) : Int) < (M : Int)
  · clear ka kg
    go_wp2_with fail
    refine (hM.out _).mono ?_
    rintro e w8 ⟨rfl, rfl⟩
    go_wp2_with fail
    refine (alive_true _).mono ?_
    rintro e w9 ⟨rfl, hb⟩
    have HB := Lib.hid (W3.out.trans (hb.mono hsz3))
    clear hb
    go_wp2_with fail
    go_ret
    exact ⟨rfl, by rw [hg1]; exact HB.out⟩
  · go_wp2_with fail
    refine (count_bools _ N y _ Y3.out (by have := q1.out; omega)).mono ?_
    rintro e w8 ⟨rfl, rfl⟩
    go_wp2_with fail
    refine (hM.out _).mono ?_
    rintro e w8 ⟨rfl, rfl⟩
    by_cases t2 : ((cb y N : Nat) : Int) < (M : Int)
    · clear ka kg
      go_wp2_with fail
      refine (hM.out _).mono ?_
      rintro e w8 ⟨rfl, rfl⟩
      go_wp2_with fail
      refine (alive_true _).mono ?_
      rintro e w9 ⟨rfl, hb⟩
      have HB := Lib.hid (W3.out.trans (hb.mono hsz3))
      clear hb
      go_wp2_with fail
      go_ret
      exact ⟨rfl, by rw [hg1]; exact HB.out⟩
    · go_wp2_with fail
      refine (count_bools _ N z _ Z.out (by have := q1.out; omega)).mono ?_
      rintro e w8 ⟨rfl, rfl⟩
      by_cases t3 : (n : Int) < ((cb z N : Nat) : Int)
      · clear ka kg
        go_wp2_with fail
        refine (hM.out _).mono ?_
        rintro e w8 ⟨rfl, rfl⟩
        go_wp2_with fail
        refine (alive_true _).mono ?_
        rintro e w9 ⟨rfl, hb⟩
        have HB := Lib.hid (W3.out.trans (hb.mono hsz3))
        clear hb
        go_wp2_with fail
        go_ret
        exact ⟨rfl, by rw [hg1]; exact HB.out⟩
      · have fin := Lib.hid (key.out (cb (andM x y) N) (cb (goodM x y z) N))
        have fin2 := Lib.hid (show K ≤ cb (andM x y) N ∧ 1 ≤ cb (goodM x y z) N from fin.out (by omega) (by omega))
        clear ka kg fin
        go_wp2_with fail
        clear t1 t2 t3
        go_loopw [13, 14, 15] (fun a b i wr => ∃ j : Nat, i = .int .i64 (j : Int) ∧ a = .int .i64 ((cb (andM x y) j : Nat) : Int) ∧ b = .int .i64 ((cb (goodM x y z) j : Nat) : Int) ∧ j ≤ N ∧ w3 = wr) (fun _ _ i _ => N - (intOf i).toNat)
        case atStart => exact ⟨0, rfl, rfl, rfl, by omega, rfl⟩
        case round =>
          obtain ⟨j, rfl, rfl, rfl, hj, rfl⟩ := hrel
          have cl1 := cb_le (andM x y) j
          have cl2 := cb_le (goodM x y z) j
          by_cases hlt : j < N
          · have hji : (j : Int) < (N : Int) := by omega
            have cx := X3.out.cell hlt
            have cy := Y3.out.cell hlt
            have cz := Z.out.cell hlt
            have ha := Lib.hid (cb_step (andM x y) j (x j && y j) rfl)
            have hg := Lib.hid (cb_step (goodM x y z) j (x j && y j && !z j) rfl)
            have HA : Hid (∀ q : Int, q = ((cb (andM x y) (j + 1) : Nat) : Int) → (Value.int .i64 q) = .int .i64 ((cb (andM x y) (j + 1) : Nat) : Int)) := fun q h => by rw [h]
            have HG : Hid (∀ q : Int, q = ((cb (goodM x y z) (j + 1) : Nat) : Int) → (Value.int .i64 q) = .int .i64 ((cb (goodM x y z) (j + 1) : Nat) : Int)) := fun q h => by rw [h]
            generalize cb (andM x y) j = qa at *
            generalize cb (goodM x y z) j = qg at *
            generalize x j = bx at *
            generalize y j = bY at *
            generalize z j = bz at *
            cases bx <;> cases bY <;> cases bz
            all_goals
              simp only [Bool.and_true, Bool.and_false, Bool.true_and, Bool.false_and, Bool.not_true, Bool.not_false, if_true, if_false, Bool.false_eq_true, Int.add_zero] at ha hg
              go_wp2_with fail
              go_roundw
              case rel => exact ⟨j + 1, by go_num, HA.out _ ha.out.symm, HG.out _ hg.out.symm, by omega, trivial⟩
              case measure => simp [intOf]; omega
          · have hji : ¬ (j : Int) < (N : Int) := by omega
            have hj2 : j = N := by omega
            subst hj2
            have t4 : (K : Int) ≤ ((cb (andM x y) j : Nat) : Int) := by have := fin2.out.1; omega
            have t5 : (1 : Int) ≤ ((cb (goodM x y z) j : Nat) : Int) := by have := fin2.out.2; omega
            clear fin2 key
            go_wp2_with fail
            refine (hW.out _).mono ?_
            rintro e w8 ⟨rfl, rfl⟩
            go_wp2_with fail
            refine (alive_true _).mono ?_
            rintro e w9 ⟨rfl, hb⟩
            have HB := Lib.hid (W3.out.trans (hb.mono hsz3))
            clear hb
            go_wp2_with fail
            go_ret
            exact ⟨rfl, by rw [hg1]; exact HB.out⟩
end Go.Proofs.Ytleclkggdhofmaa
