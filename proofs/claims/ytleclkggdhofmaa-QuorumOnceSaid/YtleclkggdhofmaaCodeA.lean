/- Contracts of the numbers of a quorum, of slices.Clone and Same; no condition. -/
import Derived.Test.YtleclkggdhofmaaProg
import Derived.Test.YtleclkggdhofmaaBase
import Derived.Outline
import Derived.WalkMore
import Derived.Deep.LoopGhost
import Derived.BigQuiet
import Derived.Deep.QuietTactic
namespace Go.Proofs.Ytleclkggdhofmaa
open Go.RowKit
set_option linter.unusedVariables false
set_option linter.unusedSimpArgs false

theorem info5 : (Try.prog.info? 5).map (fun i => (i.zero, i.size, i.bytes)) = some (some (.int .u8 0), 1, 1) := by kernel_rfl

def can (f : Int) : Bool := decide (1 ≤ f ∧ f ≤ 4)
def tm (n f : Int) : Int := if 1 ≤ f ∧ f ≤ 4 then n * f + 1 else 0
theorem can_any (f : Int) (w : World) : Calls Try.prog 26 #[.int .i64 f] w fun e w' => e = .returned (.bool (can f)) ∧ w = w' := by
  unfold can
  by_cases h1 : 1 ≤ f
  · by_cases h2 : f ≤ 4
    · rw [show decide (1 ≤ f ∧ f ≤ 4) = true from decide_eq_true ⟨h1, h2⟩]
      go_enter Try.func26, Try.ntmps26
      go_wp2
      go_ret
      exact ⟨rfl, rfl⟩
    · rw [show decide (1 ≤ f ∧ f ≤ 4) = false from decide_eq_false (by omega)]
      go_enter Try.func26, Try.ntmps26
      go_wp2
      go_ret
      exact ⟨rfl, rfl⟩
  · rw [show decide (1 ≤ f ∧ f ≤ 4) = false from decide_eq_false (by omega)]
    go_enter Try.func26, Try.ntmps26
    go_wp2
    go_ret
    exact ⟨rfl, rfl⟩
theorem times_any (n f : Int) (w : World) (h0 : 0 ≤ n) (h1 : n ≤ 3) : Calls Try.prog 25 #[.int .i64 n, .int .i64 f] w fun e w' => e = .returned (.int .i64 (tm n f)) ∧ w = w' := by
  unfold tm
  by_cases hf : 1 ≤ f ∧ f ≤ 4
  · rw [if_pos hf]
    have hc : can f = true := decide_eq_true hf
    have HC := Lib.hid hc
    clear hc
    obtain ⟨hf1, hf2⟩ := hf
    have hb : n * f ≤ 12 := by
      have : n * f ≤ 3 * f := Int.mul_le_mul_of_nonneg_right h1 (by omega)
      omega
    have hb0 : 0 ≤ n * f := Int.mul_nonneg h0 (by omega)
    go_enter Try.func25, Try.ntmps25
    go_wp2_with fail
    refine (can_any f _).mono ?_
    rw [HC.out]
    rintro e w1 ⟨rfl, rfl⟩
    go_wp2_with fail
    go_ret
    exact ⟨rfl, rfl⟩
  · rw [if_neg hf]
    have hc : can f = false := decide_eq_false hf
    have HC := Lib.hid hc
    clear hc hf
    go_enter Try.func25, Try.ntmps25
    go_wp2_with fail
    refine (can_any f _).mono ?_
    rw [HC.out]
    rintro e w1 ⟨rfl, rfl⟩
    go_wp2_with fail
    go_ret
    exact ⟨rfl, rfl⟩
theorem n_any (f : Int) (w : World) : Calls Try.prog 8 #[.int .i64 f] w fun e w' => e = .returned (.int .i64 (tm 3 f)) ∧ w = w' := by
  have h := Lib.hid (times_any 3 f w (by omega) (by omega))
  go_enter Try.func8, Try.ntmps8
  go_wp2_with fail
  refine h.out.mono ?_
  rintro e w1 ⟨rfl, rfl⟩
  go_wp2_with fail
  go_ret
  exact ⟨rfl, rfl⟩
theorem most_any (f : Int) (w : World) : Calls Try.prog 10 #[.int .i64 f] w fun e w' => e = .returned (.int .i64 (tm 2 f)) ∧ w = w' := by
  have h := Lib.hid (times_any 2 f w (by omega) (by omega))
  go_enter Try.func10, Try.ntmps10
  go_wp2_with fail
  refine h.out.mono ?_
  rintro e w1 ⟨rfl, rfl⟩
  go_wp2_with fail
  go_ret
  exact ⟨rfl, rfl⟩
theorem weak_any (f : Int) (w : World) : Calls Try.prog 12 #[.int .i64 f] w fun e w' => e = .returned (.int .i64 (tm 1 f)) ∧ w = w' := by
  have h := Lib.hid (times_any 1 f w (by omega) (by omega))
  go_enter Try.func12, Try.ntmps12
  go_wp2_with fail
  refine h.out.mono ?_
  rintro e w1 ⟨rfl, rfl⟩
  go_wp2_with fail
  go_ret
  exact ⟨rfl, rfl⟩
theorem ret_u64 {a b : Int} (h : a = b) : Ending.returned (.int .u64 a) = .returned (.int .u64 b) := by rw [h]
/-- Who leads. -/
def prim (v : Nat) (f : Int) : Nat := if 1 ≤ f ∧ f ≤ 4 then 1 + v % (3 * f.toNat + 1) else 0
theorem primary_any (v : Nat) (f : Int) (w : World) (hv : v < 18446744073709551616) : Calls Try.prog 14 #[.int .u64 (v : Int), .int .i64 f] w fun e w' => e = .returned (.int .u64 (prim v f : Int)) ∧ w = w' := by
  unfold prim
  by_cases hf : 1 ≤ f ∧ f ≤ 4
  · rw [if_pos hf]
    have hc : can f = true := decide_eq_true hf
    have HC := Lib.hid hc
    have hn := Lib.hid (n_any f w)
    have ht : tm 3 f = 3 * f + 1 := if_pos hf
    rw [ht] at hn
    obtain ⟨m, rfl⟩ := Int.eq_ofNat_of_zero_le (show 0 ≤ f by omega)
    obtain ⟨k, hk⟩ : ∃ k : Nat, k = 3 * m + 1 := ⟨_, rfl⟩
    have hkb : 4 ≤ k ∧ k ≤ 13 := by omega
    have e1 : (3 * (m : Int) + 1) = (k : Int) := by omega
    rw [e1] at hn
    rw [Int.toNat_natCast, ← hk]
    clear hc hf ht e1 hk
    have hk0 : 0 < (k : Int) := by omega
    have hmod : (v : Int) % (k : Int) < 13 := by have := Int.emod_lt_of_pos (v : Int) hk0; omega
    have hmod0 : 0 ≤ (v : Int) % (k : Int) := Int.emod_nonneg _ (by omega)
    go_enter Try.func14, Try.ntmps14
    go_wp2_with fail
    refine (can_any m _).mono ?_
    rw [HC.out]
    rintro e w1 ⟨rfl, rfl⟩
    go_wp2_with fail
    refine hn.out.mono ?_
    rintro e w1 ⟨rfl, rfl⟩
    go_wp2_with fail
    go_ret
    exact ⟨ret_u64 (by simp), rfl⟩
  · rw [if_neg hf]
    have hc : can f = false := decide_eq_false hf
    have HC := Lib.hid hc
    clear hc hf
    go_enter Try.func14, Try.ntmps14
    go_wp2_with fail
    refine (can_any f _).mono ?_
    rw [HC.out]
    rintro e w1 ⟨rfl, rfl⟩
    go_wp2_with fail
    go_ret
    exact ⟨rfl, rfl⟩

theorem refN_any (f : Int) (w : World) : Calls Try.prog 9 #[.int .i64 f] w fun e w' => e = .returned (.int .i64 (tm 3 f)) ∧ w = w' := by
  unfold tm
  by_cases hf : 1 ≤ f ∧ f ≤ 4
  · rw [if_pos hf]
    obtain ⟨h1, h2⟩ := hf
    go_enter Try.func9, Try.ntmps9
    go_wp2
    go_ret
    exact ⟨rfl, rfl⟩
  · rw [if_neg hf]
    by_cases h1 : f < 1
    · clear hf
      go_enter Try.func9, Try.ntmps9
      go_wp2
      go_ret
      exact ⟨rfl, rfl⟩
    · have h2 : 4 < f := by omega
      clear hf
      go_enter Try.func9, Try.ntmps9
      go_wp2
      go_ret
      exact ⟨rfl, rfl⟩

theorem refMost_any (f : Int) (w : World) : Calls Try.prog 11 #[.int .i64 f] w fun e w' => e = .returned (.int .i64 (tm 2 f)) ∧ w = w' := by
  unfold tm
  by_cases hf : 1 ≤ f ∧ f ≤ 4
  · rw [if_pos hf]
    obtain ⟨h1, h2⟩ := hf
    go_enter Try.func11, Try.ntmps11
    go_wp2
    go_ret
    exact ⟨rfl, rfl⟩
  · rw [if_neg hf]
    by_cases h1 : f < 1
    · clear hf
      go_enter Try.func11, Try.ntmps11
      go_wp2
      go_ret
      exact ⟨rfl, rfl⟩
    · have h2 : 4 < f := by omega
      clear hf
      go_enter Try.func11, Try.ntmps11
      go_wp2
      go_ret
      exact ⟨rfl, rfl⟩

theorem refWeak_any (f : Int) (w : World) : Calls Try.prog 13 #[.int .i64 f] w fun e w' => e = .returned (.int .i64 (tm 1 f)) ∧ w = w' := by
  unfold tm
  by_cases hf : 1 ≤ f ∧ f ≤ 4
  · rw [if_pos hf, Int.one_mul]
    obtain ⟨h1, h2⟩ := hf
    go_enter Try.func13, Try.ntmps13
    go_wp2
    go_ret
    exact ⟨rfl, rfl⟩
  · rw [if_neg hf]
    by_cases h1 : f < 1
    · clear hf
      go_enter Try.func13, Try.ntmps13
      go_wp2
      go_ret
      exact ⟨rfl, rfl⟩
    · have h2 : 4 < f := by omega
      clear hf
      go_enter Try.func13, Try.ntmps13
      go_wp2
      go_ret
      exact ⟨rfl, rfl⟩

theorem refPrimary_any (v : Nat) (f : Int) (w : World) (hv : v < 18446744073709551616) : Calls Try.prog 15 #[.int .u64 (v : Int), .int .i64 f] w fun e w' => e = .returned (.int .u64 (prim v f : Int)) ∧ w = w' := by
  unfold prim
  have hn := Lib.hid (fun w => refN_any f w)
  by_cases hf : 1 ≤ f ∧ f ≤ 4
  · rw [if_pos hf]
    have ht : tm 3 f = 3 * f + 1 := if_pos hf
    rw [ht] at hn
    obtain ⟨m, rfl⟩ := Int.eq_ofNat_of_zero_le (show 0 ≤ f by omega)
    obtain ⟨k, hk⟩ : ∃ k : Nat, k = 3 * m + 1 := ⟨_, rfl⟩
    have hkb : 4 ≤ k ∧ k ≤ 13 := by omega
    have e1 : (3 * (m : Int) + 1) = (k : Int) := by omega
    rw [e1] at hn
    rw [Int.toNat_natCast, ← hk]
    clear hf ht e1 hk
    have hk0 : 0 < (k : Int) := by omega
    have hk1 : ((k : Int) == 0) = false := beq_eq_false_iff_ne.2 (by omega)
    have hmod : (v : Int) % (k : Int) < 13 := by have := Int.emod_lt_of_pos (v : Int) hk0; omega
    have hmod0 : 0 ≤ (v : Int) % (k : Int) := Int.emod_nonneg _ (by omega)
    go_enter Try.func15, Try.ntmps15
    go_wp2_with fail
    refine (hn.out _).mono ?_
    rintro e w1 ⟨rfl, rfl⟩
    go_wp2_with fail
    refine (hn.out _).mono ?_
    rintro e w1 ⟨rfl, rfl⟩
    go_wp2_with fail
    go_ret
    exact ⟨ret_u64 (by simp), rfl⟩
  · rw [if_neg hf]
    have ht : tm 3 f = 0 := if_neg hf
    rw [ht] at hn
    clear ht hf
    go_enter Try.func15, Try.ntmps15
    go_wp2_with fail
    refine (hn.out _).mono ?_
    rintro e w1 ⟨rfl, rfl⟩
    go_wp2_with fail
    go_ret
    exact ⟨rfl, rfl⟩

/-- What a function answers that makes a slice of bytes of its own. -/
def Makes (w : World) (xs : List Nat) (e : Ending) (w' : World) : Prop :=
  ∃ A c zs, e = .returned (.slice A zs.length c) ∧ Hid (zs = xs) ∧ Own w' w.heap.size 5 A c zs ∧ Below w.heap.size w w'

set_option maxHeartbeats 400000 in
theorem clone_any (A : Option Addr) (c : Nat) (xs : List Nat) (w : World) (B : Nat) (h : Rd w B A c xs) (hb : xs.length ≤ 1000000) (hB : B ≤ w.heap.size) :
    Calls Try.prog 27 #[.slice A xs.length c] w (Makes w xs) := by
  have H := Lib.hid h
  clear h
  have q := fun (w : World) => Lib.run_eql_slice_nil (P := Try.prog) w 37 5 A xs.length c 0 0 Try.underlying37
  rcases A with _ | ad
  · go_enter Try.func27, Try.ntmps27
    go_wp2
    go_ret
    refine ⟨none, 0, [], rfl, ?_, Own.nil_ _ _ _, Below.refl _ _⟩
    have := H.out.2.2.2
    rcases Nat.eq_zero_or_pos xs.length with h0 | h0
    · exact (List.eq_nil_of_length_eq_zero h0).symm
    · obtain ⟨_, h, _⟩ := this h0
      cases h
  · go_enter Try.func27, Try.ntmps27
    go_wp2_with (at_builtin; refine wpList_app _ rfl _ _ 37 rfl w.heap.size 5 Try.underlying37 info5 rfl rfl (Own.empty _ _ _ (Nat.le_refl _)) rfl rfl (H.out.alloc hB _) (by simp; omega) (by simp) ?_)
    intro A' c' zs w' hz ho hg
    go_wp2
    go_ret
    exact ⟨A', c', zs, rfl, hz, ho, grown_to_below (((Below.refl _ _).alloc (Nat.le_refl _) _)) hg (Own.empty w w.heap.size 5 (Nat.le_refl _)) (Nat.le_refl _)⟩

/-- What a function answers that only reads. -/
def Tells (w : World) (b : Bool) (e : Ending) (w' : World) : Prop := e = .returned (.bool b) ∧ ∃ n, w' = w.drewN n

theorem dd (w : World) (a b : Nat) : ∃ m, (w.drewN a).drewN b = w.drewN m := ⟨_, World.drewN_drewN _ _ _⟩
theorem same_step {xs ys : List Nat} {k : Nat} (h : xs.take k = ys.take k) (hl : xs.length = ys.length) (hk : k < xs.length) (he : xs[k]? = ys[k]?) : xs.take (k + 1) = ys.take (k + 1) := by
  rw [List.take_add_one, List.take_add_one, h, he]

set_option maxHeartbeats 400000 in
theorem same_any (A : Option Addr) (c : Nat) (xs : List Nat) (A2 : Option Addr) (c2 : Nat) (ys : List Nat) (w : World) (B B2 : Nat) (h : Rd w B A c xs) (h2 : Rd w B2 A2 c2 ys) (b : Bool) (hb : b = decide (xs = ys)) :
    Calls Try.prog 23 #[.slice A xs.length c, .slice A2 ys.length c2] w (Tells w b) := by
  have H := Lib.hid h
  clear h
  have H2 := Lib.hid h2
  clear h2
  have HB := Lib.hid hb
  clear hb
  have hmax := H.out.max
  unfold maxLen at hmax
  by_cases hl : xs.length = ys.length
  · have HL := Lib.hid hl
    have hlb : (((xs.length : Nat) : Int) != ((ys.length : Nat) : Int)) = false := by simp [hl]
    have hlc : ((xs.length == ys.length) = true) := by simp [hl]
    clear hl
    go_enter Try.func23, Try.ntmps23
    go_wp2
    go_loopw [5] (fun i wr => ∃ k : Nat, k ≤ xs.length ∧ i = .int .i64 k ∧ Hid (xs.take k = ys.take k) ∧ ∃ n, wr = w.drewN n) (fun i _ => xs.length - (intOf i).toNat)
    case atStart => exact ⟨0, Nat.zero_le _, rfl, by simp [Hid], 0, rfl⟩
    case round =>
      obtain ⟨k, hk, rfl, HT, n, rfl⟩ := hrel
      by_cases hlt : k < xs.length
      · have hlt2 : k < ys.length := by have := HL.out; omega
        obtain ⟨ad, x, rfl, _, hx, hxb, hc⟩ := H.out.at_ hlt
        obtain ⟨ad2, y, rfl, _, hy, hyb, hc2⟩ := H2.out.at_ hlt2
        by_cases hxy : x = y
        · subst hxy
          have HT' : Hid (xs.take (k + 1) = ys.take (k + 1)) := same_step HT.out HL.out hlt (hx.trans hy.symm)
          clear hx hy
          go_wp2
          go_quiet (fail)
          go_wp2
          go_roundw
          case rel => exact ⟨k + 1, by omega, by go_num, HT', _, rfl⟩
          case measure => simp [intOf]; omega
        · have hf : b = false := by
            rw [HB.out]
            simp only [decide_eq_false_iff_not]
            rintro rfl
            rw [hx] at hy
            exact hxy (by injection hy)
          clear hx hy
          have hne : ((x : Int) != (y : Int)) = true := by simp; omega
          subst hf
          go_wp2
          go_quiet (fail)
          go_wp2
          go_ret
          exact ⟨rfl, dd _ _ _⟩
      · have he : b = true := by
          rw [HB.out]
          simp only [decide_eq_true_eq]
          have := HT.out
          have := HL.out
          rw [List.take_of_length_le (by omega), List.take_of_length_le (by omega)] at *
          assumption
        subst he
        go_wp2
        go_ret
        exact ⟨rfl, _, rfl⟩
  · have hlb : (((xs.length : Nat) : Int) != ((ys.length : Nat) : Int)) = true := by simp; omega
    have hlc : ((xs.length == ys.length) = false) := by simp [hl]
    have hf : b = false := by
      rw [HB.out]
      simp only [decide_eq_false_iff_not]
      rintro rfl
      exact hl rfl
    subst hf
    go_enter Try.func23, Try.ntmps23
    go_wp2
    go_ret
    exact ⟨rfl, 0, rfl⟩

end Go.Proofs.Ytleclkggdhofmaa
