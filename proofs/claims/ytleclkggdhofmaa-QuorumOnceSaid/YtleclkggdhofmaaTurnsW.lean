/- The walk of QuorumTurns; rows of bools; no condition. -/
import Derived.Test.YtleclkggdhofmaaOpen
import Derived.Laws.OwnMore
import Derived.Laws.MakeOwn
namespace Go.Proofs.Ytleclkggdhofmaa
open Go.RowKit
set_option linter.unusedVariables false
set_option linter.unusedSimpArgs false

/-- Block g holds N bools, the k-th M k. -/
def Bs (w : World) (g N : Nat) (M : Nat → Bool) : Prop := ∃ cs, w.heap[g]? = some (.cells cs 4 (0, 0)) ∧ cs.size = N ∧ ∀ k, k < N → cs[k]? = some (.bool (M k))
theorem Bs.drewN {w : World} {g N : Nat} {M : Nat → Bool} (h : Bs w g N M) (k : Nat) : Bs (w.drewN k) g N M := h
theorem Bs.cell {w : World} {g N : Nat} {M : Nat → Bool} (h : Bs w g N M) {k : Nat} (hk : k < N) : w.cell? ⟨g, k, none⟩ = some (.bool (M k)) := by
  obtain ⟨cs, hh, _, hc⟩ := h
  rw [cell_of_row w g _ _ _ _ hh]
  exact hc k hk
theorem Bs.soft {w : World} {g N : Nat} {M : Nat → Bool} (h : Bs w g N M) (k : Nat) : w.frozen? ⟨g, k, none⟩ = false := by
  obtain ⟨cs, hh, _⟩ := h
  exact frozen_of_row w g k _ _ hh
theorem Bs.set {w : World} {g N : Nat} {M : Nat → Bool} (h : Bs w g N M) (i : Nat) (hi : i < N) : Bs (w.setCell ⟨g, i, none⟩ (.bool true)) g N (fun k => if k = i then true else M k) := by
  obtain ⟨cs, hh, hs, hc⟩ := h
  refine ⟨cs.setIfInBounds i (.bool true), heap_setCell_same w g i _ 4 _ hh, by rw [Array.size_setIfInBounds]; exact hs, fun k hk => ?_⟩
  rw [get_set (by omega)]
  by_cases hki : k = i
  · subst hki
    simp
  · rw [if_neg (fun e => hki e.symm)]
    dsimp only
    rw [if_neg hki]
    exact hc k hk
theorem Bs.below {w w' : World} {g N B : Nat} {M : Nat → Bool} (h : Bs w g N M) (hb : Below B w w') (hg : g < B) : Bs w' g N M := by
  obtain ⟨cs, hh, r⟩ := h
  exact ⟨cs, (hb.block g hg).trans hh, r⟩
theorem Bs.lt {w : World} {g N : Nat} {M : Nat → Bool} (h : Bs w g N M) : g < w.heap.size := by
  obtain ⟨cs, hh, _⟩ := h
  rcases Nat.lt_or_ge g w.heap.size with hlt | hge
  · exact hlt
  · rw [Array.getElem?_eq_none hge] at hh; cases hh
theorem info4 : (Try.prog.info? 4).map (fun i => (i.zero, i.size, i.bytes)) = some (some (.bool false), 1, 1) := by kernel_rfl
theorem mk28 (w : World) (n : Nat) (hn : n ≤ 100) : (Instr.makeSlice 28 (.int .i64 (n : Int)) (.int .i64 (n : Int))).run Try.prog w = .ok (.slice (some ⟨w.heap.size, 0, none⟩) n n) (w.alloc (.cells (madeCells #[.bool false] n) 4)) := by
  obtain ⟨i, hi, hz, hs, hb⟩ := info_parts info4
  have := run_make (P := Try.prog) w 28 4 i _ Try.underlying28 hi hz .i64 .i64 n n (by omega) (Int.le_refl _) (by rw [hb]; omega) (by omega)
  rw [this, hs]
  simp [Value.cells]
theorem bs_new (w : World) (n : Nat) : Bs (w.alloc (.cells (madeCells #[.bool false] n) 4)) w.heap.size n (fun _ => false) := by
  refine ⟨_, heap_alloc_new w _, size_madeCells _ _, fun k hk => ?_⟩
  have h := toList_madeCells_one (.bool false) n
  rw [← Array.getElem?_toList, h, List.getElem?_replicate, if_pos hk]

/-- Of the first j views from v on: do they lead in k? -/
def led (v N j k : Nat) : Bool := decide (∃ i, i < j ∧ (v + i) % N = k)
theorem led_step (v N j : Nat) : (fun k => if k = (v + j) % N then true else led v N j k) = led v N (j + 1) := by
  funext k
  unfold led
  by_cases hk : k = (v + j) % N
  · subst hk
    rw [if_pos rfl]
    symm
    exact decide_eq_true ⟨j, by omega, rfl⟩
  · rw [if_neg hk]
    congr 1
    apply propext
    constructor
    · rintro ⟨i, hi, h⟩
      exact ⟨i, by omega, h⟩
    · rintro ⟨i, hi, h⟩
      rcases Nat.lt_or_ge i j with h1 | h1
      · exact ⟨i, h1, h⟩
      · have : i = j := by omega
        subst this
        exact absurd h.symm hk
theorem led_free (v N j : Nat) (hj : j < N) : led v N j ((v + j) % N) = false := by
  unfold led
  refine decide_eq_false ?_
  rintro ⟨i, hi, h⟩
  have h1 := Nat.sub_mod_eq_zero_of_mod_eq h.symm
  have h2 : (v + j) - (v + i) = j - i := by omega
  rw [h2, Nat.mod_eq_of_lt (by omega)] at h1
  omega

theorem tm3 (n : Nat) (h : 1 ≤ n ∧ n ≤ 4) : tm 3 (n : Int) = ((3 * n + 1 : Nat) : Int) := by
  unfold tm
  rw [if_pos (by omega)]
  omega
theorem prim_eq (u n : Nat) (h : 1 ≤ n ∧ n ≤ 4) : prim u (n : Int) = 1 + u % (3 * n + 1) := by
  unfold prim
  rw [if_pos (by omega)]
  simp

set_option maxHeartbeats 1000000 in
theorem turns_walk (f : Int) (v : Nat) (w : World) (hv : v < 18446744073709551616) :
    Calls Try.prog 5 #[.int .i64 f, .int .u64 (v : Int)] w fun e w' => e = .returned (.bool true) ∧ Below w.heap.size w w' := by
  by_cases h1 : f < 1
  · go_enter Try.func5, Try.ntmps5
    go_wp2_with fail
    refine (alive_true _).mono ?_
    rintro e w1 ⟨rfl, hb⟩
    have HB := Lib.hid hb
    clear hb
    go_wp2_with fail
    go_ret
    exact ⟨rfl, HB.out⟩
  by_cases h2 : 4 < f
  · go_enter Try.func5, Try.ntmps5
    go_wp2_with fail
    refine (alive_true _).mono ?_
    rintro e w1 ⟨rfl, hb⟩
    have HB := Lib.hid hb
    clear hb
    go_wp2_with fail
    go_ret
    exact ⟨rfl, HB.out⟩
  by_cases h3 : (4611686018427387903 : Int) < (v : Int)
  · go_enter Try.func5, Try.ntmps5
    go_wp2_with fail
    refine (alive_true _).mono ?_
    rintro e w1 ⟨rfl, hb⟩
    have HB := Lib.hid hb
    clear hb
    go_wp2_with fail
    go_ret
    exact ⟨rfl, HB.out⟩
  obtain ⟨n, rfl⟩ := Int.eq_ofNat_of_zero_le (show 0 ≤ f by omega)
  have hn : 1 ≤ n ∧ n ≤ 4 := by omega
  have hN := Lib.hid (fun w => n_any (n : Int) w)
  rw [tm3 n hn] at hN
  have hP := Lib.hid (fun (u : Nat) (w : World) (h : u < 18446744073709551616) => primary_any u (n : Int) w h)
  have hP2 : Hid (∀ (u : Nat) (w : World), u < 18446744073709551616 → Calls Try.prog 14 #[.int .u64 (u : Int), .int .i64 (n : Int)] w fun e w' => e = .returned (.int .u64 ((1 + u % (3 * n + 1) : Nat) : Int)) ∧ w = w') := by
    intro u w h
    have := hP.out u w h
    rwa [prim_eq u n hn] at this
  have hNb : 4 ≤ 3 * n + 1 ∧ 3 * n + 1 ≤ 13 := by omega
  clear hP
  generalize hNN : 3 * n + 1 = N at *
  have mk := fun w => mk28 w N (by omega)
  have hw := bs_new w N
  have hwb : Below w.heap.size w (w.alloc (.cells (madeCells #[.bool false] N) 4)) := (Below.refl _ _).alloc (Nat.le_refl _) _
  have HW := Lib.hid hw
  have HWB := Lib.hid hwb
  clear hw hwb
  go_enter Try.func5, Try.ntmps5
  go_wp2_with fail
  refine (hN.out _).mono ?_
  rintro e w1 ⟨rfl, rfl⟩
  go_wp2_with fail
  generalize w.alloc (.cells (madeCells #[.bool false] N) 4) = w1 at *
  go_loopw [7] (fun i wr => ∃ j : Nat, i = .int .i64 (j : Int) ∧ j ≤ N ∧ Hid (Bs wr w.heap.size N (led v N j)) ∧ Hid (Below w.heap.size w wr)) (fun i _ => N - (intOf i).toNat)
  case atStart => exact ⟨0, rfl, by omega, by
    have : led v N 0 = fun _ => false := by
      funext k
      exact decide_eq_false (by rintro ⟨i, hi, _⟩; omega)
    rw [this]; exact HW, HWB⟩
  case round =>
    obtain ⟨j, rfl, hj, B, BB⟩ := hrel
    have hvb : v ≤ 4611686018427387903 := by omega
    by_cases hlt : j < N
    · have hji : (j : Int) < (N : Int) := by omega
      have hcall := hP2.out (v + j)
      have hfree := led_free v N j hlt
      have hstep := Lib.hid (led_step v N j)
      have hK : (v + j) % N < N := Nat.mod_lt _ (by omega)
      generalize (v + j) % N = K at *
      have hcell : wr.cell? ⟨w.heap.size, K, none⟩ = some (.bool false) := by rw [← hfree]; exact B.out.cell hK
      have hfz := B.out.soft K
      have hs1 := Lib.hid (B.out.set K hK)
      rw [hstep.out] at hs1
      have hs2 := Lib.hid (BB.out.setCell (p := ⟨w.heap.size, K, none⟩) (Nat.le_refl _) (.bool true))
      have HC := Lib.hid hcall
      have p1 : ¬ (((1 + K : Nat) : Int) < 1) := by omega
      have p2 : ¬ ((N : Int) < ((1 + K : Nat) : Int)) := by omega
      have p3 : IntKind.u64.wrap (((1 + K : Nat) : Int) - 1) = (K : Int) := by rw [IntKind.wrap_u64]; omega
      have p4 : IntKind.u64.wrap ((v : Int) + (j : Int)) = ((v + j : Nat) : Int) := by rw [IntKind.wrap_u64]; omega
      clear hcall hfree hstep
      go_wp2_with fail
      refine (HC.out _ (by omega)).mono ?_
      rintro e w3 ⟨rfl, rfl⟩
      generalize hp : ((1 + K : Nat) : Int) = p at *
      go_wp2_with fail
      go_roundw
      case rel => exact ⟨j + 1, by go_num, by omega, hs1, hs2⟩
      case measure => simp [intOf]; omega
    · have hji : ¬ (j : Int) < (N : Int) := by omega
      have hj2 : j = N := by omega
      subst hj2
      have p4 : IntKind.u64.wrap ((v : Int) + (j : Int)) = ((v + j : Nat) : Int) := by rw [IntKind.wrap_u64]; omega
      have hmod : (v + j) % j = v % j := Nat.add_mod_right v j
      have e1 : ∀ x : Int, (x == x) = true := fun x => by simp
      go_wp2_with fail
      refine (hP2.out _ _ (by omega)).mono ?_
      rintro e w3 ⟨rfl, rfl⟩
      rw [hmod]
      go_wp2_with fail
      refine (hP2.out _ _ (by omega)).mono ?_
      rintro e w3 ⟨rfl, rfl⟩
      go_wp2_with fail
      refine (alive_true _).mono ?_
      rintro e w4 ⟨rfl, hb⟩
      have HB := Lib.hid (BB.out.trans (hb.mono BB.out.size))
      clear hb
      go_wp2_with fail
      go_ret
      exact ⟨rfl, HB.out⟩
end Go.Proofs.Ytleclkggdhofmaa
