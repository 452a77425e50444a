/- The chapter's examples: Norm of 3 + 4i, the row of nought; no condition. -/
import Derived.Test.YthhmjfngldfmjaaCodeD
import Derived.Laws.ComplexArith
import Derived.Laws.BytesArg
namespace Go.Proofs.Ythhmjfngldfmjaa
open Go.RowKit
set_option linter.unusedVariables false
set_option linter.unusedSimpArgs false

theorem F3 : F 3 = 4613937818241073152 := by decide
theorem F4 : F 4 = 4616189618054758400 := by decide
theorem neg4 (w : World) : (Op.unary .neg (.float .f64 4616189618054758400)).run Try.prog w = .ok (.float .f64 13839561654909534208) w := by kernel_rfl
theorem mul_34 : cMulBits 4613937818241073152 4616189618054758400 4613937818241073152 13839561654909534208 = some (4627730092099895296, 0) := by decide
theorem int_25 : floatToIntVal .f64 4627730092099895296 .u64 = some 25 := by decide
theorem norm_34 (w : World) : Calls Try.prog 9 #[.complex .f64 4613937818241073152 4616189618054758400] w fun e w' => e = .returned (.tuple #[.int .u64 25, .int .i64 0]) ∧ w = w' := by
  have hr := Lib.hid (fun w => right_F 3 4 (by decide) (by decide) w)
  rw [F3, F4] at hr
  have hc : (if inP 3 = true ∧ inP 4 = true then (0 : Int) else 1) = 0 := by decide
  rw [hc] at hr
  have h1 := neg4
  have h2 := fun w => run_complex_mul (P := Try.prog) w 23 _ _ _ _ _ _ mul_34
  have h3 := fun (w : World) => run_convert_float_int (P := Try.prog) w 40 35 .f64 .u64 4627730092099895296 25 (by rw [Try.underlying40]; rfl) Try.underlying35 int_25
  go_enter Try.func9, Try.ntmps9
  go_wp2_with fail
  refine (hr.out _).mono ?_
  rintro e w1 ⟨rfl, rfl⟩
  go_wp2_with fail
  go_ret2
  exact ⟨rfl, rfl⟩
/-- A word's bytes as a string. -/
def strOf (xs : List Nat) : ByteArray := strOfNums (xs.map fun x : Nat => (x : Int))
theorem conv_str {w : World} {B : Nat} {A : Option Addr} {c : Nat} {xs : List Nat} (h : Rd w B A c xs) : (convert 38 9 (.slice A xs.length c)).run Try.prog w = .ok (.string (strOf xs)) w := by
  rcases A with _ | ad
  · have hx : xs = [] := by
      rcases Nat.eq_zero_or_pos xs.length with h0 | h0
      · exact List.eq_nil_of_length_eq_zero h0
      · obtain ⟨_, h, _⟩ := h.2.2.2 h0
        cases h
    subst hx
    exact run_convert_bytes_nil w 38 5 Try.underlying38 Try.underlying5 _ _ 9 Try.underlying9
  · have hl : (loadCells ad xs.length).run Try.prog w = .ok ((xs.map fun x : Nat => (x : Int)).map (Value.int .u8)).toArray w := by
      have := run_loadCells_list (P := Try.prog) w ad ((xs.map fun x : Nat => (x : Int)).map (Value.int .u8)) (fun j v hj => by
        rw [List.map_map, List.getElem?_map, Option.map_eq_some_iff] at hj
        obtain ⟨x, hx, rfl⟩ := hj
        obtain ⟨ad', h', _, hc⟩ := h.2.2.2 (by have := (List.getElem?_eq_some_iff.1 hx).1; omega)
        injection h' with h'
        subst h'
        exact hc j x hx)
      simpa using this
    rw [run_convert_bytes_string w 38 9 5 _ _ c Try.underlying38 Try.underlying5 Try.underlying9, run_bytesToString w _ _ c _ hl, foldl_push_bytes]
    simp [strOf, strOfNums, ByteArray.empty, ByteArray.emptyWithCapacity]
    rfl


theorem info5 : (Try.prog.info? 5).map (fun i => (i.zero, i.size, i.bytes)) = some (some (.int .u8 0), 1, 1) := by kernel_rfl
def rowN (j : Nat) : Nat := if j ≤ 20 then 0 else 3298534883328
theorem rstep_all : ∀ j : Fin 22, bits .or .u64 ((rowN j.val : Nat) : Int) (IntKind.u64.wrap (bits .or .u64 (IntKind.u64.wrap (bits .and .u64 (1048576 / 2 ^ j.val) 1 * 2)) (bits .and .u64 (1048576 / 2 ^ j.val) 1) * 2 ^ (2 * j.val))) = ((rowN (j.val + 1) : Nat) : Int) := by decide +kernel
theorem rstep (j : Nat) (hj : j < 22) : bits .or .u64 ((rowN j : Nat) : Int) (IntKind.u64.wrap (bits .or .u64 (IntKind.u64.wrap (bits .and .u64 (1048576 / 2 ^ j) 1 * 2)) (bits .and .u64 (1048576 / 2 ^ j) 1) * 2 ^ (2 * j))) = ((rowN (j + 1) : Nat) : Int) := rstep_all ⟨j, hj⟩
/-- The row's bytes from place 5 down to place m. -/
def bb (u : Nat) : Nat := 3298534883328 / 2 ^ (8 * u) % 256
def L : Nat → List Nat
  | 0 => [112]
  | t + 1 => L t ++ [bb (5 - t)]
theorem L6 : L 6 = [112, 3, 0, 0, 0, 0, 0] := by decide
theorem L_len (t : Nat) : (L t).length = t + 1 := by
  induction t with
  | zero => rfl
  | succ t ih => show (L t ++ [_]).length = _; rw [List.length_append, ih]; rfl
theorem own_p (w : World) : Own (w.alloc (.cells #[.int .u8 112] 5)) w.heap.size 5 (some ⟨w.heap.size, 0, none⟩) 1 [112] := by
  refine ⟨⟨by simp [bvs], .inr ⟨w.heap.size, 1, #[.int .u8 112], rfl, Nat.le_refl _, heap_alloc_new w _, by simp, by unfold maxLen; omega, by simp, by simp [bvs, bv]⟩⟩, by simp⟩

set_option maxRecDepth 100000 in
set_option maxHeartbeats 2000000 in
theorem row_0 (w : World) : Calls Try.prog 8 #[.complex .f64 0 0] w fun e w' => e = .returned (.tuple #[.string { data := #[112, 3, 0, 0, 0, 0, 0] }, .int .i64 0]) ∧ Below w.heap.size w w' := by
  have hp := Lib.hid (fun w => part_F 0 (by decide) w)
  unfold PartP at hp
  rw [F_zero] at hp
  have hc : (if inP 0 = true then (0 : Int) + 1048576 else 0) = 1048576 := by decide
  have hc2 : inP 0 = true := by decide
  rw [hc, hc2] at hp
  have HO := Lib.hid (own_p w)
  have HB := Lib.hid ((Below.refl w.heap.size w).alloc (Nat.le_refl _) (.cells #[.int .u8 112] 5))
  go_enter Try.func8, Try.ntmps8
  go_wp2_with fail
  refine (hp.out _).mono ?_
  rintro e w1 ⟨rfl, rfl⟩
  go_wp2_with fail
  refine (hp.out _).mono ?_
  rintro e w1 ⟨rfl, rfl⟩
  go_wp2_with fail
  go_loopw [8, 30] (fun n i wr => ∃ j : Nat, i = .int .i64 (j : Int) ∧ j ≤ 22 ∧ n = .int .u64 ((rowN j : Nat) : Int) ∧ w = wr) (fun _ i _ => 22 - (intOf i).toNat)
  case atStart => exact ⟨0, rfl, by omega, rfl, rfl⟩
  case round =>
    obtain ⟨j, rfl, hj, rfl, rfl⟩ := hrel
    by_cases hlt : j < 22
    · have hji : (j : Int) < 22 := by omega
      have hrb : rowN j ≤ 3298534883328 := by unfold rowN; split <;> omega
      have hst := Lib.hid (rstep j hlt)
      go_wp2_with fail
      go_roundw
      case rel => exact ⟨j + 1, by go_num, by omega, by rw [hst.out], trivial⟩
      case measure => simp [intOf]; omega
    · have hji : ¬ (j : Int) < 22 := by omega
      have hj2 : j = 22 := by omega
      subst hj2
      have hr22 : rowN 22 = 3298534883328 := by decide
      clear hc hc2 hp
      go_wp2_with fail
      generalize w.alloc (.cells #[.int .u8 112] 5) = w1 at *
      go_loopw [10, 11] (fun o i wr => ∃ (m : Nat) (A : Option Addr) (c : Nat) (zs : List Nat), i = .int .i64 (8 * (m : Int) - 8) ∧ m ≤ 6 ∧ o = .slice A zs.length c ∧ Hid (zs = L (6 - m)) ∧ Hid (Own wr w.heap.size 5 A c zs) ∧ Hid (Below w.heap.size w wr)) (fun _ i _ => (intOf i + 8).toNat)
      case atStart => exact ⟨6, _, 1, [112], rfl, by omega, rfl, rfl, HO, HB⟩
      case round =>
        clear HO HB
        obtain ⟨m, A, c, zs, rfl, hm, rfl, HZ, OO, BB⟩ := hrel
        by_cases hlt2 : 0 < m
        · obtain ⟨u, rfl⟩ : ∃ u, m = u + 1 := ⟨m - 1, by omega⟩
          have eu : 8 * ((u + 1 : Nat) : Int) - 8 = ((8 * u : Nat) : Int) := by omega
          rw [eu]
          have hu : u ≤ 5 := by omega
          have hsz := BB.out.size
          have hzl : zs.length ≤ 7 := by rw [HZ.out, L_len]; omega
          have hbu : bb u < 256 := Nat.mod_lt _ (by decide)
          have hw : IntKind.u8.wrap ((3298534883328 : Int) / 2 ^ (8 * u)) = ((bb u : Nat) : Int) := by
            have e : (3298534883328 : Int) / 2 ^ (8 * u) = ((3298534883328 / 2 ^ (8 * u) : Nat) : Int) := by simp
            rw [e, IntKind.wrap_u8']
            unfold bb
            generalize 3298534883328 / 2 ^ (8 * u) = y
            omega
          have HZ2 : Hid (zs ++ [bb u] = L (6 - u)) := by
            show _ = _
            have e : 6 - u = (6 - (u + 1)) + 1 := by omega
            rw [e]
            show _ = L (6 - (u + 1)) ++ [bb (5 - (6 - (u + 1)))]
            rw [HZ.out, show 5 - (6 - (u + 1)) = u by omega]
          clear eu hm HZ hlt2
          generalize bb u = x at *
          go_wp2_with (at_builtin; refine wpList_app _ rfl _ _ 38 rfl w.heap.size 5 Try.underlying38 info5 rfl rfl (OO.out.alloc _) rfl rfl (Rd.one wr 5 x hbu) (by simp; omega) (by simp; omega) ?_)
          intro A' c' zs2 w2 hz2 ho2 hg2
          have BB2 := Lib.hid (grown_to_below (BB.out.alloc hsz _) hg2 (OO.out.alloc _) (Nat.le_refl _))
          have OO2 := Lib.hid ho2
          have HZ3 : Hid (zs2 = L (6 - u)) := by show _ = _; rw [hz2.out]; exact HZ2.out
          clear hz2 ho2 hg2 OO BB HZ2 hsz
          go_wp2_with fail
          go_roundw
          case rel => exact ⟨u, A', c', zs2, by first | rfl | (congr 1; omega) | simp, by omega, rfl, HZ3, OO2, BB2⟩
          case measure => simp [intOf]; omega
        · have hm0 : m = 0 := by omega
          subst hm0
          have hL : zs = [112, 3, 0, 0, 0, 0, 0] := HZ.out.trans L6
          have kc := conv_str OO.out.rd
          have hstr : strOf zs = { data := #[112, 3, 0, 0, 0, 0, 0] } := by rw [hL]; rfl
          rw [hstr] at kc
          clear hL hstr HZ OO hlt2 hm
          go_wp2_with fail
          go_ret2
          exact ⟨rfl, BB.out⟩

theorem alive_true (w : World) : Calls Try.prog 4 #[] w fun e w' => e = .returned (.bool true) ∧ Below w.heap.size w w' := by
  have hr := Lib.hid (fun w => row_0 w)
  have hn := Lib.hid (fun w => norm_34 w)
  go_enter Try.func4, Try.ntmps4
  go_wp2_with fail
  refine (hr.out _).mono ?_
  rintro e w1 ⟨rfl, hb⟩
  have HB := Lib.hid hb
  clear hb
  go_wp2_with fail
  refine (hn.out _).mono ?_
  rintro e w2 ⟨rfl, rfl⟩
  go_wp2_with fail
  go_ret
  exact ⟨rfl, HB.out⟩
theorem bchain {B : Nat} {a b c : World} (h : Below B a b) (k : Below b.heap.size b c) (hB : B ≤ b.heap.size) : Below B a c := h.trans (k.mono hB)

set_option maxHeartbeats 1000000 in
theorem reads_walk (s : ByteArray) (w : World) : Calls Try.prog 3 #[.string s] w fun e w' => e = .returned (.bool true) ∧ Below w.heap.size w w' := by
  have ha := Lib.hid (fun w => alive_true w)
  by_cases hl : (1000 : Int) < (s.size : Int)
  · go_enter Try.func3, Try.ntmps3
    go_wp2_with fail
    refine (ha.out _).mono ?_
    rintro e w1 ⟨rfl, hb⟩
    have HB := Lib.hid hb
    clear hb
    go_wp2_with fail
    go_ret
    exact ⟨rfl, HB.out⟩
  · by_cases hf : form s
    · have h6 := Lib.hid (fun w => refread s w (.agg #[.int .i64 (px s 1), .int .i64 (px s 0)]) (inP (px s 1) && inP (px s 0)) (fun _ => ⟨rfl, rfl⟩) (fun h => absurd hf h))
      by_cases hok : okP s
      · have h5 := Lib.hid (fun w => read_yes s w hf (.complex .f64 (F (px s 1)) (F (px s 0))) 0 (fun _ => ⟨rfl, rfl⟩) (fun h => absurd hok h))
        have ht := Lib.hid (fun w => told_ok (px s 1) (px s 0) (px_b s 1) (px_b s 0) w)
        have hi : (inP (px s 1) && inP (px s 0)) = true := by rw [hok.1, hok.2]; rfl
        rw [hi] at h6
        clear hf hok hi
        generalize F (px s 1) = fx at *
        generalize F (px s 0) = fy at *
        generalize px s 1 = x at *
        generalize px s 0 = y at *
        go_enter Try.func3, Try.ntmps3
        go_wp2_with fail
        refine (h5.out _).mono ?_
        rintro e w1 ⟨rfl, hb⟩
        have HB1 := Lib.hid hb
        clear hb
        go_wp2_with fail
        refine (h6.out _).mono ?_
        rintro e w2 ⟨rfl, hb⟩
        have HB2 := Lib.hid (bchain HB1.out hb HB1.out.size)
        clear hb HB1
        have HB2a := Lib.hid (HB2.out.alloc HB2.out.size (.cells #[.int .i64 x, .int .i64 y] 28))
        go_wp2_with fail
        refine (ht.out _).mono ?_
        rintro e w3 ⟨rfl, hb⟩
        have HB3 := Lib.hid (bchain HB2a.out hb HB2a.out.size)
        clear hb
        go_wp2_with fail
        refine (ha.out _).mono ?_
        rintro e w4 ⟨rfl, hb⟩
        have HB4 := Lib.hid (bchain HB3.out hb HB3.out.size)
        clear hb
        go_wp2_with fail
        go_ret
        exact ⟨rfl, HB4.out⟩
      · have h5 := Lib.hid (fun w => read_yes s w hf (.complex .f64 0 0) 5 (fun h => absurd h hok) (fun _ => ⟨rfl, rfl⟩))
        have ht := Lib.hid (fun w => told_bad (.int .i64 (px s 1)) (.int .i64 (px s 0)) w)
        have hi : (inP (px s 1) && inP (px s 0)) = false := by
          rw [Bool.eq_false_iff]
          intro h
          rw [Bool.and_eq_true] at h
          exact hok h
        rw [hi] at h6
        clear hf hok hi
        generalize px s 1 = x at *
        generalize px s 0 = y at *
        go_enter Try.func3, Try.ntmps3
        go_wp2_with fail
        refine (h5.out _).mono ?_
        rintro e w1 ⟨rfl, hb⟩
        have HB1 := Lib.hid hb
        clear hb
        go_wp2_with fail
        refine (h6.out _).mono ?_
        rintro e w2 ⟨rfl, hb⟩
        have HB2 := Lib.hid (bchain HB1.out hb HB1.out.size)
        clear hb HB1
        have HB2a := Lib.hid (HB2.out.alloc HB2.out.size (.cells #[.int .i64 x, .int .i64 y] 28))
        go_wp2_with fail
        refine (ht.out _).mono ?_
        rintro e w3 ⟨rfl, hb⟩
        have HB3 := Lib.hid (bchain HB2a.out hb HB2a.out.size)
        clear hb
        go_wp2_with fail
        refine (ha.out _).mono ?_
        rintro e w4 ⟨rfl, hb⟩
        have HB4 := Lib.hid (bchain HB3.out hb HB3.out.size)
        clear hb
        go_wp2_with fail
        go_ret
        exact ⟨rfl, HB4.out⟩
    · have h6 := Lib.hid (fun w => refread s w (.agg #[.int .i64 0, .int .i64 0]) false (fun h => absurd h hf) (fun _ => ⟨rfl, rfl⟩))
      have h5 := Lib.hid (fun w => read_no s w hf)
      have ht := Lib.hid (fun w => told_bad (.int .i64 0) (.int .i64 0) w)
      clear hf
      go_enter Try.func3, Try.ntmps3
      go_wp2_with fail
      refine (h5.out _).mono ?_
      rintro e w1 ⟨rfl, hb⟩
      have HB1 := Lib.hid hb
      clear hb
      go_wp2_with fail
      refine (h6.out _).mono ?_
      rintro e w2 ⟨rfl, hb⟩
      have HB2 := Lib.hid (bchain HB1.out hb HB1.out.size)
      clear hb HB1
      have HB2a := Lib.hid (HB2.out.alloc HB2.out.size (.cells #[.int .i64 0, .int .i64 0] 28))
      go_wp2_with fail
      refine (ht.out _).mono ?_
      rintro e w3 ⟨rfl, hb⟩
      have HB3 := Lib.hid (bchain HB2a.out hb HB2a.out.size)
      clear hb
      go_wp2_with fail
      refine (ha.out _).mono ?_
      rintro e w4 ⟨rfl, hb⟩
      have HB4 := Lib.hid (bchain HB3.out hb HB3.out.size)
      clear hb
      go_wp2_with fail
      go_ret
      exact ⟨rfl, HB4.out⟩
end Go.Proofs.Ythhmjfngldfmjaa
