/- Contract of the reference's Read; no condition. -/
import Derived.Test.YthhmjfngldfmjaaCodeC
import Derived.BigRegion
import Derived.Laws.ResultCell
import Derived.Laws.Rows
import Derived.Deep.RegionHeld3
import Derived.Deep.DeepCutAuto
namespace Go.Proofs.Ythhmjfngldfmjaa
open Go.RowKit
set_option linter.unusedVariables false
set_option linter.unusedSimpArgs false

theorem qstep (n d t : Nat) : ((Qd n d (t + 1) : Nat) : Int) = ((Qd n d t : Nat) : Int) * 2 + ((bt n (2 * (21 - t) + d) : Nat) : Int) := by
  show ((Qd n d t * 2 + bt n (2 * (21 - t) + d) : Nat) : Int) = _
  simp
theorem and_bit (n p : Nat) (hn : n < 281474976710656) : bits .and .u64 ((n : Int) / 2 ^ p) 1 = ((bt n p : Nat) : Int) := by
  have hq : n / 2 ^ p < 18446744073709551616 := Nat.lt_of_le_of_lt (Nat.div_le_self _ _) (by omega)
  have e := u64_and_nat (n / 2 ^ p) 1 hq (by omega)
  have e2 : (n / 2 ^ p) &&& 1 = n / 2 ^ p % 2 := Nat.and_two_pow_sub_one_eq_mod _ 1
  rw [e2] at e
  unfold bt
  rw [← e]
  congr 1

theorem setCell_self {w : World} {b o : Nat} {v : Value} (h : w.cell? ⟨b, o, none⟩ = some v) : w.setCell ⟨b, o, none⟩ v = w := by
  have hb : ∃ c e fr, w.heap[b]? = some (.cells c e fr) ∧ c[o]? = some v := by
    unfold World.cell? at h
    split at h
    · rename_i c e fr hb
      exact ⟨c, e, fr, hb, by simpa using h⟩
    · cases h
  obtain ⟨c, e, fr, hb, hc⟩ := hb
  have hset : c.setIfInBounds o v = c := by
    apply Array.ext_getElem?
    intro j
    rw [Array.getElem?_setIfInBounds]
    by_cases hj : o = j
    · subst hj
      obtain ⟨hl, hv⟩ := Array.getElem?_eq_some_iff.1 hc
      rw [if_pos rfl, if_pos hl, hc]
    · rw [if_neg hj]
  have hheap : (w.setCell ⟨b, o, none⟩ v).heap = w.heap := by
    apply Array.ext_getElem?
    intro j
    simp only [World.setCell, Array.getElem?_modify]
    by_cases hj : b = j
    · subst hj
      rw [if_pos rfl, hb]
      simp [hset]
    · rw [if_neg hj]
  cases w
  unfold World.setCell at hheap ⊢
  simp only at hheap
  simp only [hheap]

theorem wstep (n a p : Nat) (hn : n < 281474976710656) (ha : a ≤ 2097152) : wrap64 ((a : Int) * 2 + wrap64 (bits .and .u64 ((n : Int) / 2 ^ p) 1)) = (a : Int) * 2 + ((bt n p : Nat) : Int) := by
  have := bt_lt n p
  rw [and_bit n p hn, w64 (x := ((bt n p : Nat) : Int)) (by omega) (by omega), w64 (by omega) (by omega)]
theorem below_undrew {w w' : World} (h : Below w.drew.heap.size w.drew w') : Below w.heap.size w w' := ⟨h.os, h.tape, h.output, h.size, h.block⟩
theorem below_undrewN {w w' : World} {n : Nat} (h : Below (w.drewN n).heap.size (w.drewN n) w') : Below w.heap.size w w' := ⟨h.os, h.tape, h.output, h.size, h.block⟩
theorem info28 : (Try.prog.info? 28).map (·.size) = some 2 := by kernel_rfl
theorem ret6 (tmps : Array Value) (w : World) (g : Nat) (x y : Value) (b : Bool) (h2 : tmps.getD 2 undef = .pointer (some ⟨g, 0, none⟩)) (h3 : tmps.getD 3 undef = .bool b) (hg : w.heap[g]? = some (.cells #[x, y] 28 (0, 0))) :
    (results Try.f6 tmps).run Try.prog w = .ok (.tuple #[.agg #[x, y], .bool b]) w := by
  rw [results_cell_tmp rfl, h2, h3]
  have e := run_loadVar_row (P := Try.prog) w g 28 28 #[x, y] (0, 0) _ hg Try.underlying28 rfl info28
  simp [asAddr, e, Result.andThen]

set_option maxRecDepth 100000 in
set_option maxHeartbeats 4000000 in
theorem refread (s : ByteArray) (w : World) (v : Value) (b : Bool) (hyes : form s → v = .agg #[.int .i64 (px s 1), .int .i64 (px s 0)] ∧ b = (inP (px s 1) && inP (px s 0))) (hno : ¬ form s → v = .agg #[.int .i64 0, .int .i64 0] ∧ b = false) :
    Calls Try.prog 6 #[.string s] w fun e w' => e = .returned (.tuple #[v, .bool b]) ∧ Below w.heap.size w w' := by
  have hb0 := Lib.hid ((Below.refl w.heap.size w).alloc (Nat.le_refl _) (.cells #[.int .i64 0, .int .i64 0] 28))
  by_cases hs : s.size = 7
  case neg =>
    obtain ⟨rfl, rfl⟩ := hno (fun h => hs h.1)
    have h2 : ((s.size : Int) != 7) = true := by simp; omega
    clear hyes hno
    go_enter Try.func6, Try.ntmps6
    go_wp2_with fail
    refine bodyPost_ret (ret6 _ _ w.heap.size _ _ _ rfl rfl (heap_alloc_new w _)) rfl ?_
    exact ⟨rfl, hb0.out⟩
  case pos =>
  have h2 : ((s.size : Int) != 7) = false := by simp [hs]
  have h3 : (0 : Int) < s.size := by omega
  have g0 := byte_get s 0 (by omega)
  by_cases h0 : byte s 0 = 112
  case neg =>
    obtain ⟨rfl, rfl⟩ := hno (fun h => h0 h.2.1)
    have k0 : (((byte s 0 : Nat) : Int) != 112) = true := by simp; omega
    clear hyes hno h0
    go_enter Try.func6, Try.ntmps6
    go_wp2_with fail
    refine bodyPost_ret (ret6 _ _ w.heap.size _ _ _ rfl rfl (heap_alloc_new w _)) rfl ?_
    exact ⟨rfl, hb0.out⟩
  case pos =>
  have k0 : (((byte s 0 : Nat) : Int) != 112) = false := by simp [h0]
  obtain ⟨n, hnn⟩ : ∃ n, nb s 6 = n := ⟨_, rfl⟩
  have htop := nb_top s
  have hp1 : px s 1 = ((Qd n 1 22 : Nat) : Int) - 1048576 := by unfold px; rw [Q_all, hnn]
  have hp0 : px s 0 = ((Qd n 0 22 : Nat) : Int) - 1048576 := by unfold px; rw [Q_all, hnn]
  rw [hnn] at htop
  rw [hp1, hp0] at hyes
  clear hp1 hp0
  have htop := Lib.hid htop
  have hw0 := Lib.hid (heap_alloc_new w (.cells #[.int .i64 0, .int .i64 0] 28))
  have hsz0 : (w.alloc (.cells #[.int .i64 0, .int .i64 0] 28)).heap.size = w.heap.size + 1 := by simp
  have c0 : (w.alloc (.cells #[.int .i64 0, .int .i64 0] 28)).cell? ⟨w.heap.size, 0, none⟩ = some (.int .i64 0) := by rw [cell_of_row _ _ _ _ _ _ hw0.out]; rfl
  have c1 : (w.alloc (.cells #[.int .i64 0, .int .i64 0] 28)).cell? ⟨w.heap.size, 1, none⟩ = some (.int .i64 0) := by rw [cell_of_row _ _ _ _ _ _ hw0.out]; rfl
  have f0 := frozen_of_row _ _ 0 _ _ hw0.out
  have f1 := frozen_of_row _ _ 1 _ _ hw0.out
  have s0 := setCell_self c0
  have s1 := setCell_self c1
  go_enter Try.func6, Try.ntmps6
  go_wp2_with fail
  generalize w.alloc (.cells #[.int .i64 0, .int .i64 0] 28) = w1 at *
  go_loopw [4, 5] (fun n i wr => ∃ j : Nat, i = .int .i64 ((j : Int) + 1) ∧ j ≤ 6 ∧ n = .int .u64 ((nb s j : Nat) : Int) ∧ w1 = wr) (fun _ i _ => 7 - (intOf i).toNat)
  case atStart => exact ⟨0, rfl, by omega, rfl, rfl⟩
  case round =>
    obtain ⟨j, rfl, hj, rfl, rfl⟩ := hrel
    by_cases hlt : j < 6
    · have hji : (j : Int) + 1 < 7 := by omega
      have gj := byte_get s (j + 1) (by omega)
      have hbl := byte_lt s (j + 1)
      have hnl : nb s j < 1099511627776 := Nat.lt_of_lt_of_le (nb_lt s j) (by
        have : 256 ^ j ≤ 256 ^ 5 := Nat.pow_le_pow_right (by omega) (by omega)
        simpa using this)
      have hst : Hid (((nb s j : Nat) : Int) * 256 + ((byte s (j + 1) : Nat) : Int) = ((nb s (j + 1) : Nat) : Int)) := by
        show _ = _
        show _ = ((nb s j * 256 + byte s (j + 1) : Nat) : Int)
        simp
      have hsl : ((j : Int) + 1) < (s.size : Int) := by omega
      generalize nb s j = q at *
      generalize byte s (j + 1) = c at *
      go_wp2_with fail
      go_roundw
      case rel => exact ⟨j + 1, by go_num, by omega, by rw [hst.out], trivial⟩
      case measure => simp [intOf]; omega
    · have hji : ¬ (j : Int) + 1 < 7 := by omega
      have hj2 : j = 6 := by omega
      subst hj2
      have hnb : n < 281474976710656 := by rw [← hnn]; exact nb6 s
      by_cases hf : byte s 1 ≤ 15
      · have hn := htop.out.2 hf
        obtain ⟨rfl, rfl⟩ := hyes ⟨hs, h0, hf⟩
        clear hyes hno hf htop hlt hji hj h0 k0 g0
        have hnge : ¬ (17592186044416 : Int) ≤ (n : Int) := by omega
        go_wp2_with fail
        go_loopw [6, 7, 8] (fun x y i wr => ∃ m : Nat, i = .int .i64 ((m : Int) - 1) ∧ m ≤ 22 ∧ x = .int .i64 ((Qd n 1 (22 - m) : Nat) : Int) ∧ y = .int .i64 ((Qd n 0 (22 - m) : Nat) : Int) ∧ w1 = wr) (fun _ _ i _ => (intOf i + 1).toNat)
        case atStart => exact ⟨22, rfl, by omega, rfl, rfl, rfl⟩
        case round =>
          obtain ⟨m, rfl, hm, rfl, rfl, rfl⟩ := hrel
          by_cases hlt : 0 < m
          · obtain ⟨u, rfl⟩ : ∃ u, m = u + 1 := ⟨m - 1, by omega⟩
            have eu : ((u + 1 : Nat) : Int) - 1 = (u : Int) := by omega
            rw [eu]
            obtain ⟨t, ht⟩ : ∃ t, 22 - (u + 1) = t := ⟨_, rfl⟩
            have ht2 : 22 - u = t + 1 := by omega
            have ht3 : 21 - t = u := by omega
            have hq1 := Lib.hid (qstep n 1 t)
            have hq0 := Lib.hid (qstep n 0 t)
            rw [ht3] at hq1 hq0
            have q1 := Q_lt n 1 t
            have q0 := Q_lt n 0 t
            have hpt : 2 ^ t ≤ 2097152 := by
              have : 2 ^ t ≤ 2 ^ 21 := Nat.pow_le_pow_right (by omega) (by omega)
              simpa using this
            have qb1 : Qd n 1 t ≤ 2097152 := by omega
            have qb0 : Qd n 0 t ≤ 2097152 := by omega
            have hu : u ≤ 21 := by omega
            rw [ht]
            clear q1 q0 hpt eu ht hm hlt ht3
            generalize Qd n 1 t = a at *
            generalize Qd n 0 t = c at *
            have w1' := Lib.hid (wstep n a (2 * u + 1) hnb qb1)
            have w0' := Lib.hid (wstep n c (2 * u + 0) hnb qb0)
            go_wp2_with fail
            go_roundw
            case rel => exact ⟨u, rfl, by omega, by rw [w1'.out, ht2, hq1.out], by rw [show (2 * u) = 2 * u + 0 from rfl, w0'.out, ht2, hq0.out], trivial⟩
            case measure => simp [intOf]
          · have ht2 : m = 0 := by omega
            subst ht2
            have xl1 : Qd n 1 22 < 4194304 := Q_lt n 1 22
            have xl0 : Qd n 0 22 < 4194304 := Q_lt n 0 22
            simp only [Nat.sub_zero]
            generalize ha : Qd n 1 22 = a at *
            generalize hc : Qd n 0 22 = c at *
            have H2 : (w1.alloc (.cells #[.int .i64 ((a : Int) - 1048576), .int .i64 ((c : Int) - 1048576)] 28)).heap[w.heap.size + 1]? = some (.cells #[.int .i64 ((a : Int) - 1048576), .int .i64 ((c : Int) - 1048576)] 28 (0, 0)) := by rw [← hsz0]; exact heap_alloc_new w1 _
            have H0 : (w1.alloc (.cells #[.int .i64 ((a : Int) - 1048576), .int .i64 ((c : Int) - 1048576)] 28)).heap[w.heap.size]? = some (.cells #[.int .i64 0, .int .i64 0] 28 (0, 0)) := by rw [heap_alloc_old _ _ (by omega)]; exact hw0.out
            have HB2 := Lib.hid (hb0.out.alloc (by omega) (.cells #[.int .i64 ((a : Int) - 1048576), .int .i64 ((c : Int) - 1048576)] 28))
            have hsz2 : (w1.alloc (.cells #[.int .i64 ((a : Int) - 1048576), .int .i64 ((c : Int) - 1048576)] 28)).heap.size = w.heap.size + 2 := by simp [hsz0]
            have d0 : (w1.alloc (.cells #[.int .i64 ((a : Int) - 1048576), .int .i64 ((c : Int) - 1048576)] 28)).cell? ⟨w.heap.size + 1, 0, none⟩ = some (.int .i64 ((a : Int) - 1048576)) := by rw [cell_of_row _ _ _ _ _ _ H2]; rfl
            have d1 : (w1.alloc (.cells #[.int .i64 ((a : Int) - 1048576), .int .i64 ((c : Int) - 1048576)] 28)).cell? ⟨w.heap.size + 1, 1, none⟩ = some (.int .i64 ((c : Int) - 1048576)) := by rw [cell_of_row _ _ _ _ _ _ H2]; rfl
            have H0 := Lib.hid H0
            clear H2
            go_wp2_with fail
            clear c0 c1 f0 f1 s0 s1
            generalize w1.alloc (.cells #[.int .i64 ((a : Int) - 1048576), .int .i64 ((c : Int) - 1048576)] 28) = w2 at *
            generalize hx : ((a : Int) - 1048576) = x at *
            generalize hy : ((c : Int) - 1048576) = y at *
            go_region_held3 (fun w' => w'.cell? ⟨w.heap.size + 1, 0, none⟩ = some (.int .i64 x) ∧ w'.cell? ⟨w.heap.size + 1, 1, none⟩ = some (.int .i64 y)) (first | (constructor <;> assumption)) (first | (go_at_call 11; refine (is_any x y _).mono ?_; rintro e w6 ⟨rfl, hb6'⟩; have hb6 : Below w2.heap.size w2 w6 := (by first | exact hb6' | exact below_undrew hb6' | exact below_undrewN hb6'); have d0' : w6.cell? ⟨w.heap.size + 1, 0, none⟩ = some (.int .i64 x) := (hb6.cell (p := ⟨w.heap.size + 1, 0, none⟩) (by show w.heap.size + 1 < _; omega)).trans d0; have d1' : w6.cell? ⟨w.heap.size + 1, 1, none⟩ = some (.int .i64 y) := (hb6.cell (p := ⟨w.heap.size + 1, 1, none⟩) (by show w.heap.size + 1 < _; omega)).trans d1; have H6 : w6.heap[w.heap.size]? = some (.cells #[.int .i64 0, .int .i64 0] 28 (0, 0)) := (hb6.block _ (by omega)).trans H0.out; have c0 : w6.cell? ⟨w.heap.size, 0, none⟩ = some (.int .i64 0) := (by rw [cell_of_row _ _ _ _ _ _ H6]; rfl); have c1 : w6.cell? ⟨w.heap.size, 1, none⟩ = some (.int .i64 0) := (by rw [cell_of_row _ _ _ _ _ _ H6]; rfl); have f0 := frozen_of_row _ _ 0 _ _ H6; have f1 := frozen_of_row _ _ 1 _ _ H6; have e0' : ((w6.setCell ⟨w.heap.size, 0, none⟩ (.int .i64 x)).setCell ⟨w.heap.size, 1, none⟩ (.int .i64 y)).cell? ⟨w.heap.size + 1, 0, none⟩ = some (.int .i64 x) := (by rw [World.cell?_setCell_far _ _ _ _ (by show w.heap.size ≠ w.heap.size + 1; omega), World.cell?_setCell_far _ _ _ _ (by show w.heap.size ≠ w.heap.size + 1; omega)]; exact d0'); have e1' : ((w6.setCell ⟨w.heap.size, 0, none⟩ (.int .i64 x)).setCell ⟨w.heap.size, 1, none⟩ (.int .i64 y)).cell? ⟨w.heap.size + 1, 1, none⟩ = some (.int .i64 y) := (by rw [World.cell?_setCell_far _ _ _ _ (by show w.heap.size ≠ w.heap.size + 1; omega), World.cell?_setCell_far _ _ _ _ (by show w.heap.size ≠ w.heap.size + 1; omega)]; exact d1'); have HB6 := Lib.hid (HB2.out.trans (hb6.mono (by omega))); have H6 := Lib.hid H6; clear hb6 hb6'))
            all_goals
              go_wp2_with fail
              have HH : ((w6.setCell ⟨w.heap.size, 0, none⟩ (.int .i64 x)).setCell ⟨w.heap.size, 1, none⟩ (.int .i64 y)).heap[w.heap.size]? = some (.cells #[.int .i64 x, .int .i64 y] 28 (0, 0)) := by
                have := heap_setCell_same _ w.heap.size 1 _ 28 (.int .i64 y) (heap_setCell_same w6 w.heap.size 0 _ 28 (.int .i64 x) H6.out)
                simpa using this
              refine bodyPost_ret (ret6 _ _ w.heap.size _ _ _ rfl rfl HH) rfl ?_
              refine ⟨by rw [ha, hc, hx, hy], ?_⟩
              exact (HB6.out.setCell (p := ⟨w.heap.size, 0, none⟩) (Nat.le_refl _) _).setCell (p := ⟨w.heap.size, 1, none⟩) (Nat.le_refl _) _
      · have hn : ¬ n < 17592186044416 := fun h => hf (htop.out.1 h)
        obtain ⟨rfl, rfl⟩ := hno (fun h => hf h.2.2)
        clear hyes hno hf htop hlt hji hj h0 k0 g0
        have hnge : (17592186044416 : Int) ≤ (n : Int) := by omega
        go_wp2_with fail
        refine bodyPost_ret (ret6 _ _ w.heap.size _ _ _ rfl rfl hw0.out) rfl ?_
        exact ⟨rfl, hb0.out⟩
end Go.Proofs.Ythhmjfngldfmjaa
