/- Contracts of quorum's votes: all, Count; no condition. -/
import Derived.Test.YtleclkggdhofmaaCodeC
namespace Go.Proofs.Ytleclkggdhofmaa
open Go.RowKit
set_option linter.unusedVariables false
set_option linter.unusedSimpArgs false

theorem info43 : (Try.prog.info? 43).map (fun i => (i.zero, i.size, i.bytes)) = some (some (.agg #[.int .u64 0, .slice none 0 0, .slice none 0 0]), 3, 56) := by kernel_rfl
theorem info54 : (Try.prog.info? 54).map (·.size) = some 13 := by kernel_rfl
theorem size4 (w : World) : (sizeOf 4).run Try.prog w = .ok 1 w := by kernel_rfl

theorem strOf_list (u : List Nat) : (strOf u).data.toList = u.map fun x => UInt8.ofNat x := by
  unfold strOf
  rw [strOfNums_data, List.map_map]
  rfl
theorem strOf_inj {u v : List Nat} (hu : ∀ x ∈ u, x < 256) (hv : ∀ x ∈ v, x < 256) (h : strOf u = strOf v) : u = v := by
  have h1 := congrArg (fun s : ByteArray => s.data.toList.map UInt8.toNat) h
  simp only [strOf_list, List.map_map] at h1
  have e : ∀ l : List Nat, (∀ x ∈ l, x < 256) → l.map (UInt8.toNat ∘ fun x => UInt8.ofNat x) = l := by
    intro l hl
    induction l with
    | nil => rfl
    | cons a t ih =>
      rw [List.map_cons, ih (fun x hx => hl x (List.mem_cons_of_mem _ hx))]
      have := hl a (by simp)
      simp [Nat.mod_eq_of_lt this]
  rwa [e u hu, e v hv] at h1
theorem bytes_eq {a b : ByteArray} : (a.toList == b.toList) = true ↔ a = b := by
  rw [beq_iff_eq, ByteArray.toList_eq, ByteArray.toList_eq]
  constructor
  · intro h
    cases a
    cases b
    congr
    exact Array.toList_inj.1 h
  · intro h
    rw [h]
theorem own_drewN {w : World} {base e size n : Nat} {v : Value} {xs : List Value} (h : w.ownsRow base e size v n xs) (k : Nat) : (w.drewN k).ownsRow base e size v n xs := h
theorem below_own {W w w' : World} {base e size n : Nat} {v : Value} {xs : List Value} (h : Below W.heap.size W w) (hg : w.grownBy w' v.ownBlock) (ho : w.ownsRow base e size v n xs) (hb : W.heap.size ≤ base) : Below W.heap.size W w' :=
  h.grown hg h.size fun k hk => Nat.le_trans hb (ho.lt k hk).1

/-- How many of the first j seats have voted for a word. -/
def cnt (V : Nat → Option (List Nat)) (u : List Nat) : Nat → Nat
  | 0 => 0
  | j + 1 => cnt V u j + if V j = some u then 1 else 0

theorem run_index54 (va : Array Value) (i : Nat) (v : Value) (hi : i < 13) (hv : va[i]? = some v) (w : World) : (Instr.index 54 (.agg va) (.int .i64 (i : Int))).run Try.prog w = .ok v w := by
  have h : (0 : Int) ≤ (i : Int) ∧ (i : Int) < 13 := by omega
  simp [Instr.index, run_underlying Try.underlying54, asIntOf, h, size4, part, Try.isAgg4, hv]
  intro h2
  omega

def Cnts (w : World) (n : Nat) (e : Ending) (w' : World) : Prop := ∃ A c, e = .returned (.slice A n c) ∧ Below w.heap.size w w'

set_option maxRecDepth 100000 in
set_option maxHeartbeats 4000000 in
theorem all_any (g : Nat) (f : Int) (V : Nat → Option (List Nat)) (A : Option Addr) (c : Nat) (xs : List Nat) (w : World) (B : Nat) (h : Vot w g f V) (hr : Rd w B A c xs) (hB : B ≤ w.heap.size) (hVb : ∀ i u, V i = some u → ∀ x ∈ u, x < 256) :
    Calls Try.prog 28 #[.pointer (some ⟨g, 0, none⟩), .slice A xs.length c] w (Cnts w (cnt V xs 13)) := by
  have hglt := h.lt
  have HVot := Lib.hid h
  have HR := Lib.hid hr
  have HVB := Lib.hid hVb
  have hxs := Lib.hid hr.lt
  obtain ⟨cs, hh, hsz, h0, h1, h2, h3⟩ := h
  have hra : w.rangeAt g 1 ((List.range 13).map fun i => Value.bool (V i).isSome) := by
    intro j v hj
    rw [List.getElem?_map, Option.map_eq_some_iff] at hj
    obtain ⟨i, hi, rfl⟩ := hj
    obtain ⟨hil, rfl⟩ := List.getElem?_eq_some_iff.1 hi
    rw [List.length_range] at hil
    rw [List.getElem_range, cell_of_row w g _ _ _ _ hh, h1 j hil]
  have HRA := Lib.hid hra
  have hidx : Hid (∀ i, i < 13 → ((List.range 13).map fun i => Value.bool (V i).isSome).toArray[i]? = some (.bool (V i).isSome)) := by
    intro i hi
    simp [hi]
  have hvl : Hid (((List.range 13).map fun i => Value.bool (V i).isSome).length = 13) := by simp [Hid]
  generalize ((List.range 13).map fun i => Value.bool (V i).isSome) = vl at *
  have HH := Lib.hid hh
  have H2 := Lib.hid h2
  have H3 := Lib.hid h3
  clear hh h0 h1 h2 h3 hr hVb hra
  go_enter Try.func28, Try.ntmps28
  go_wp2_with (refine wpList_load_mid rfl 54 _ rfl g 1 rfl vl _ HRA.out Try.underlying54 rfl (by rw [info54, hvl.out]) ?_)
  generalize vl.toArray = va at *
  go_loopw [4, 13] (fun o i wr => ∃ (j n : Nat) (A' : Option Addr) (c' : Nat) (ys : List Value), i = .int .i64 (j : Int) ∧ o = .slice A' n c' ∧ j ≤ 13 ∧ n ≤ j ∧ Hid (n = cnt V xs j) ∧ Hid (wr.ownsRow w.heap.size 43 3 (.slice A' n c') n ys) ∧ Hid (Below w.heap.size w wr)) (fun _ i _ => 13 - (intOf i).toNat)
  case atStart => exact ⟨0, 0, none, 0, [], rfl, rfl, by omega, by omega, rfl, World.ownsRow_nil _ _ _ _, Below.refl _ _⟩
  case round =>
    obtain ⟨j, n, A', c', ys, rfl, rfl, hj, hnj, HN, O, BB⟩ := hrel
    by_cases hlt : j < 13
    · have hli : (j : Int) < 13 := by omega
      have hl0 : (0 : Int) ≤ (j : Int) := by omega
      have ix : ∀ W : World, (Instr.index 54 (.agg va) (.int .i64 (j : Int))).run Try.prog W = .ok (.bool (V j).isSome) W := fun W => run_index54 va j _ hlt (hidx.out j hlt) W
      cases hVj : V j with
      | none =>
        have hcn : Hid (n = cnt V xs (j + 1)) := by show n = cnt V xs j + (if V j = some xs then 1 else 0); rw [hVj, if_neg (by simp)]; exact HN.out
        rw [hVj] at ix
        simp only [Option.isSome_none] at ix
        clear hVj
        go_wp2_with fail
        go_quiet (fail)
        go_wp2_with fail
        go_roundw
        case rel => exact ⟨j + 1, n, A', c', ys, by go_num, rfl, by omega, by omega, hcn, O, below_drewN BB.out _⟩
        case measure => simp [intOf]; omega
      | some u =>
        rw [hVj] at ix
        simp only [Option.isSome_some] at ix
        obtain ⟨s, hs, hsu⟩ := H3.out j hlt
        obtain rfl := hsu u hVj
        have hhr : wr.heap[g]? = some (.cells cs 58 (0, 0)) := (BB.out.block g hglt).trans HH.out
        have k5 : wr.cell? ⟨g, 53 + j, none⟩ = some (.string (strOf u)) := by rw [cell_of_row wr g _ _ _ _ hhr]; exact hs
        have RX : Rd wr B A c xs := HR.out.below BB.out hB
        have v0 : ∀ n, (convert 37 9 (.slice A xs.length c)).run Try.prog (wr.drewN n) = .ok (.string (strOf xs)) (wr.drewN n) := fun n => conv_str (RX.drewN n)
        have v1 : (convert 37 9 (.slice A xs.length c)).run Try.prog wr.drew = .ok (.string (strOf xs)) wr.drew := conv_str RX.drew
        have v2 : (convert 37 9 (.slice A xs.length c)).run Try.prog wr = .ok (.string (strOf xs)) wr := conv_str RX
        by_cases hux : u = xs
        · subst hux
          have t1 : ((strOf u).toList == (strOf u).toList) = true := by simp
          go_wp2_with fail
          go_quiet (fail)
          have hcn : Hid (n + 1 = cnt V u (j + 1)) := by show n + 1 = cnt V u j + (if V j = some u then 1 else 0); rw [hVj, if_pos rfl, HN.out]
          obtain ⟨t0, hk2, o2⟩ := H2.out (14 + j * 3) (by omega) (by omega)
          obtain ⟨t1', hk3, o3⟩ := H2.out (14 + j * 3 + 1) (by omega) (by omega)
          obtain ⟨t2, hk4, o4⟩ := H2.out (14 + j * 3 + 2) (by omega) (by omega)
          have k2 : wr.cell? ⟨g, 14 + j * 3, none⟩ = some t0 := by rw [cell_of_row wr g _ _ _ _ hhr]; exact hk2
          have k3 : wr.cell? ⟨g, 14 + j * 3 + 1, none⟩ = some t1' := by rw [cell_of_row wr g _ _ _ _ hhr]; exact hk3
          have k4 : wr.cell? ⟨g, 14 + j * 3 + 2, none⟩ = some t2 := by rw [cell_of_row wr g _ _ _ _ hhr]; exact hk4
          have h1c : Hid (∀ v ∈ [t0, t1', t2], v.oneCell' = true) := by
            intro v hv
            simp at hv
            rcases hv with rfl | rfl | rfl <;> assumption
          have hsz2 := BB.out.size
          clear hk2 hk3 hk4 o2 o3 o4 hVj hs hsu hhr RX
          obtain ⟨i43, hi43, hz43, hs43, hb43⟩ := info_parts info43
          have I43 := Lib.hid hi43
          have Z43 := Lib.hid hz43
          have S43 := Lib.hid hs43
          have B43 := Lib.hid hb43
          clear hi43 hz43 hs43 hb43
          go_wp2_with (at_builtin; go_loud (refine wpList_append_lies _ rfl _ _ 49 rfl w.heap.size 43 i43 _ 3 56 Try.underlying49 I43.out Z43.out S43.out B43.out rfl (by decide) _ n ys rfl ((own_drewN O.out _).alloc _) ⟨wr.heap.size, 0, none⟩ 1 1 [t0, t1', t2] rfl rfl (World.news_of_block (heap_alloc_new _ _)) h1c.out (by decide) (by unfold maxLen; omega) (by omega) (by simp; omega) _ rfl ?_))
          intro g2 cap w2 hown2 hg2 hat hlt2
          have hb2 := Lib.hid (below_own (below_drewN (BB.out) _ |>.alloc (by exact hsz2) _) hg2 ((own_drewN O.out _).alloc _) (Nat.le_refl _))
          have O2 := Lib.hid hown2
          clear hown2 hg2 hat
          go_wp2_with fail
          go_roundw
          case rel => exact ⟨j + 1, n + 1, some ⟨g2, 0, none⟩, cap, ys ++ [t0, t1', t2], by go_num, rfl, by omega, by omega, hcn, O2, hb2⟩
          case measure => simp [intOf]; omega
        · have t1 : ((strOf u).toList == (strOf xs).toList) = false := by
            rw [Bool.eq_false_iff]
            intro h
            exact hux (strOf_inj (HVB.out j u hVj) hxs.out (bytes_eq.1 h))
          have hcn : Hid (n = cnt V xs (j + 1)) := by show n = cnt V xs j + (if V j = some xs then 1 else 0); rw [hVj, if_neg (by simpa using hux)]; exact HN.out
          clear hVj hs hsu hhr RX
          go_wp2_with fail
          go_quiet (fail)
          go_wp2_with fail
          go_roundw
          case rel => exact ⟨j + 1, n, A', c', ys, by go_num, rfl, by omega, by omega, hcn, O, below_drewN BB.out _⟩
          case measure => simp [intOf]; omega
    · have hli : ¬ (j : Int) < 13 := by omega
      have hj13 : j = 13 := by omega
      subst hj13
      have hn := HN.out
      go_wp2_with fail
      go_ret
      exact ⟨A', c', by rw [← hn]; rfl, BB.out⟩
end Go.Proofs.Ytleclkggdhofmaa
