/- Contract of quorum's Enough over votes; no condition. -/
import Derived.Test.YtleclkggdhofmaaCodeE
import Derived.Maps.Own
import Derived.Maps.OwnOps
import Derived.Maps.Views
import Derived.Lib.ConvBytes
namespace Go.Proofs.Ytleclkggdhofmaa
open Go.RowKit Go.Maps
set_option linter.unusedVariables false
set_option linter.unusedSimpArgs false

theorem law9 : Keyed Try.prog 9 := string_keyed Try.underlying9
theorem zero3 (w : World) : (zeroValue 3).run Try.prog w = .ok (.int .i64 0) w := by kernel_rfl
theorem strOf_size (u : List Nat) : (strOf u).size = u.length := by
  have := congrArg List.length (strOf_list u)
  rw [List.length_map] at this
  rw [← this]
  rfl
/-- The key of a word. -/
def kw (u : List Nat) : Lit := .string (strOf u).data.toList
theorem key_of {u : List Nat} (h : u.length ≤ 100) : keyOf Try.prog 9 (.string (strOf u)) = some (kw u) :=
  WideMaps.keyOf_string_mk Try.underlying9 (by rw [strOf_size]; unfold maxLen; omega)
theorem kw_ne {u v : List Nat} (hu : ∀ x ∈ u, x < 256) (hv : ∀ x ∈ v, x < 256) (h : u ≠ v) : kw u ≠ kw v := by
  intro e
  injection e with e
  refine h (strOf_inj hu hv ?_)
  cases hs : strOf u
  cases ht : strOf v
  rw [hs, ht] at e
  congr
  exact Array.toList_inj.1 e
/-- A map that counts words: at each word how many of the first j seats have voted for it. -/
def Tally (V : Nat → Option (List Nat)) (j : Nat) (D : DataW Nat) : Prop :=
  IsMap D ∧ ∀ u, (∀ x ∈ u, x < 256) → D.atKey (kw u) (.lit (.int .i64 0)) = .lit (.int .i64 ((cnt V u j : Nat) : Int))
theorem tally_zero (V : Nat → Option (List Nat)) : Tally V 0 (.map []) := ⟨⟨_, rfl⟩, fun u _ => rfl⟩
theorem tally_none {V : Nat → Option (List Nat)} {j : Nat} {D : DataW Nat} (h : Tally V j D) (hV : V j = none) : Tally V (j + 1) D := by
  refine ⟨h.1, fun u hu => ?_⟩
  rw [h.2 u hu]
  show _ = DataW.lit (.int .i64 ((cnt V u j + (if V j = some u then 1 else 0) : Nat) : Int))
  rw [hV, if_neg (by simp)]
  rfl
theorem tally_some {V : Nat → Option (List Nat)} {j : Nat} {D : DataW Nat} (h : Tally V j D) {v : List Nat} (hV : V j = some v) (hv : ∀ x ∈ v, x < 256) :
    Tally V (j + 1) (D.put (kw v) (.lit (.int .i64 (((cnt V v j : Nat) : Int) + 1)))) := by
  refine ⟨?_, fun u hu => ?_⟩
  · obtain ⟨es, rfl⟩ := h.1
    exact ⟨_, rfl⟩
  · show _ = DataW.lit (.int .i64 ((cnt V u j + (if V j = some u then 1 else 0) : Nat) : Int))
    by_cases e : u = v
    · subst e
      rw [atKey_put_same h.1 (show WideAt.IsKeyLit (kw u) from trivial), hV, if_pos rfl]
      rfl
    · rw [atKey_put_other (kw_ne hu hv e), h.2 u hu, hV, if_neg (by simpa using fun h => e h.symm)]
      rfl
theorem cnt_le (V : Nat → Option (List Nat)) (u : List Nat) (j : Nat) : cnt V u j ≤ j := by
  induction j with
  | zero => exact Nat.le_refl _
  | succ j ih => unfold cnt; split <;> omega

/-- A string's bytes in a new row. -/
theorem rd_bytes (w : World) (u : List Nat) (hu : ∀ x ∈ u, x < 256) (hl : u.length ≤ 100) :
    Rd (Lib.bytesWorld w 5 (strOf u)) (w.heap.size + 1) (some ⟨w.heap.size, 0, none⟩) (grownCap w (strOf u).size 0 5) u := by
  have hs := strOf_size u
  refine ⟨by rw [← hs]; exact grownCap_ge .., grownCap_le_maxLen _ _ _ _ (by unfold maxLen; omega), hu, fun _ => ⟨_, rfl, by simp, fun j x hj => ?_⟩⟩
  have hjl := (List.getElem?_eq_some_iff.1 hj).1
  rw [add_head, Lib.bytesWorld_cell w 5 _ j (by rw [strOf_size]; exact hjl), strOf_list, List.getD_eq_getElem?_getD, List.getElem?_map, hj]
  have hx := hu x (List.mem_of_getElem? hj)
  show some (Value.int .u8 (((UInt8.ofNat x).toNat : Nat) : Int)) = some (bv x)
  have e : (UInt8.ofNat x).toNat = x := by simp [Nat.mod_eq_of_lt hx]
  rw [e]
  rfl
theorem below_bytes (w : World) (s : ByteArray) : Below w.heap.size w (Lib.bytesWorld w 5 s) := by
  refine ⟨rfl, rfl, rfl, by rw [Lib.bytesWorld_size]; omega, fun k hk => Lib.bytesWorld_at_old w 5 s k hk⟩

def EnoughP (w : World) (n : Int) (V : Nat → Option (List Nat)) (e : Ending) (w' : World) : Prop :=
  Below w.heap.size w w' ∧ ((∃ u A c i, i < 13 ∧ V i = some u ∧ n ≤ ((cnt V u 13 : Nat) : Int) ∧ e = .returned (.tuple #[.slice A u.length c, .bool true]) ∧ Rd w' w'.heap.size A c u) ∨
    (e = .returned (.tuple #[.slice none 0 0, .bool false]) ∧ ∀ i, i < 13 → ∀ u, V i = some u → ((cnt V u 13 : Nat) : Int) < n))

set_option maxRecDepth 100000 in
set_option maxHeartbeats 4000000 in
theorem enough_any (g : Nat) (f : Int) (V : Nat → Option (List Nat)) (k : Int) (w : World) (h : Vot w g f V) (hV : ∀ i u, V i = some u → (∀ x ∈ u, x < 256) ∧ u.length ≤ 100) (hk : 1 ≤ k) :
    Calls Try.prog 21 #[.pointer (some ⟨g, 0, none⟩), .int .i64 k] w (EnoughP w k V) := by
  have hglt := h.lt
  have HVW := Lib.hid hV
  obtain ⟨cs, hh, hsz, h0, h1, h2, h3⟩ := h
  have hra : ∀ W, Below w.heap.size w W → W.rangeAt g 1 ((List.range 13).map fun i => Value.bool (V i).isSome) := by
    intro W hb j v hj
    rw [List.getElem?_map, Option.map_eq_some_iff] at hj
    obtain ⟨i, hi, rfl⟩ := hj
    obtain ⟨hil, rfl⟩ := List.getElem?_eq_some_iff.1 hi
    rw [List.length_range] at hil
    rw [List.getElem_range, cell_of_row W g _ _ _ _ ((hb.block g hglt).trans hh), h1 j hil]
  have HRA := Lib.hid hra
  have hidx : Hid (∀ i, i < 13 → ((List.range 13).map fun i => Value.bool (V i).isSome).toArray[i]? = some (.bool (V i).isSome)) := by
    intro i hi
    simp [hi]
  have hvl : Hid (((List.range 13).map fun i => Value.bool (V i).isSome).length = 13) := by simp [Hid]
  generalize ((List.range 13).map fun i => Value.bool (V i).isSome) = vl at *
  have HS : Hid (∀ W, Below w.heap.size w W → ∀ j u, j < 13 → V j = some u → W.cell? ⟨g, 53 + j, none⟩ = some (.string (strOf u))) := by
    intro W hb j u hj hu
    obtain ⟨s, hs, hsu⟩ := h3 j hj
    rw [cell_of_row W g _ _ _ _ ((hb.block g hglt).trans hh), hs, hsu u hu]
  clear hh h0 h1 h2 h3 hV hra
  have hmm := @run_makeMap Try.prog
  have HM := Lib.hid (World.ownsMap_made w Try.prog 9 (plainElem (H := Nat) Try.prog 3))
  have HB0 : Hid (Below w.heap.size w (w.alloc (.map #[] 0))) := (Below.refl _ _).alloc (Nat.le_refl _) _
  go_enter Try.func21, Try.ntmps21
  go_wp2_with (refine wpList_load_mid rfl 54 _ rfl g 1 rfl vl _ (HRA.out _ HB0.out) Try.underlying54 rfl (by rw [info54, hvl.out]) ?_)
  generalize hva : vl.toArray = va at *
  generalize w.alloc (.map #[] 0) = w0 at *
  go_loopw [22] (fun i wr => ∃ (j : Nat) (D : DataW Nat), i = .int .i64 (j : Int) ∧ j ≤ 13 ∧ Hid (wr.ownsMap Try.prog 9 (plainElem Try.prog 3) w.heap.size j D) ∧ Hid (Tally V j D) ∧ Hid (Below w.heap.size w wr)) (fun i _ => 13 - (intOf i).toNat)
  case atStart => exact ⟨0, _, rfl, by omega, HM, tally_zero V, HB0⟩
  case round =>
    obtain ⟨j, D, rfl, hj, OM, TL, BB⟩ := hrel
    by_cases hlt : j < 13
    · have hli : (j : Int) < 13 := by omega
      have hl0 : (0 : Int) ≤ (j : Int) := by omega
      have ix : ∀ W : World, (Instr.index 54 (.agg va) (.int .i64 (j : Int))).run Try.prog W = .ok (.bool (V j).isSome) W := fun W => run_index54 va j _ hlt (hidx.out j hlt) W
      cases hVj : V j with
      | none =>
        have TL2 := Lib.hid (tally_none TL.out hVj)
        have OM2 := Lib.hid (OM.out.mono (Nat.le_succ j))
        rw [hVj] at ix
        simp only [Option.isSome_none] at ix
        clear hVj
        go_wp2_with fail
        go_roundw
        case rel => exact ⟨j + 1, D, by go_num, by omega, OM2, TL2, BB⟩
        case measure => simp [intOf]; omega
      | some u =>
        rw [hVj] at ix
        simp only [Option.isSome_some] at ix
        have hu := HVW.out j u hVj
        have k5 := HS.out wr BB.out j u hlt hVj
        obtain ⟨c, hrun, hat, hwc⟩ := OM.out.lookup_int law9 Try.underlying60 Try.underlying3 (zero3 _) (key_of hu.2)
        have hc : c = ((cnt V u j : Nat) : Int) := by
          have := TL.out.2 u hu.1
          rw [hat] at this
          injection this with this
          injection this
        subst hc
        have hcl := cnt_le V u j
        have TL2 := Lib.hid (tally_some TL.out hVj hu.1)
        obtain ⟨w1, hupd, ho1, hg1⟩ := OM.out.update law9 Try.underlying60 (by unfold maxLen; omega) (key_of hu.2) (plainElem_int (a := ((cnt V u j : Nat) : Int) + 1) Try.underlying3 (by simp [Lit.wf, IntKind.min, IntKind.max, IntKind.bits, IntKind.signed]; omega))
        have OM2 := Lib.hid ho1
        have BB2 := Lib.hid (BB.out.grown hg1 BB.out.size (fun j hj => by cases hj; exact Nat.le_refl _))
        clear hVj ho1 hg1 hat hwc hu
        generalize cnt V u j = q at *
        go_wp2_with fail
        go_roundw
        case rel => exact ⟨j + 1, _, by go_num, by omega, OM2, TL2, BB2⟩
        case measure => simp [intOf]; omega
    · have hli : ¬ (j : Int) < 13 := by omega
      have hj13 : j = 13 := by omega
      subst hj13
      clear hli hj
      go_wp2_with (refine wpList_load_mid rfl 54 _ rfl g 1 rfl vl _ (HRA.out _ BB.out) Try.underlying54 rfl (by rw [info54, hvl.out]) ?_)
      have HI : Hid (∀ u, (∀ x ∈ u, x < 256) ∧ u.length ≤ 100 → ∃ c : Int, (Instr.lookup 60 (.map (some w.heap.size)) (.string (strOf u)) false).run Try.prog wr = .ok (.int .i64 c) wr ∧ c = ((cnt V u 13 : Nat) : Int)) := by
        intro u hu
        obtain ⟨c, hrun, hat, hwc⟩ := OM.out.lookup_int law9 Try.underlying60 Try.underlying3 (zero3 _) (key_of hu.2)
        have := TL.out.2 u hu.1
        rw [hat] at this
        injection this with this
        injection this with _ this
        exact ⟨c, hrun, this⟩
      clear HM HB0 OM TL
      go_loopw [41] (fun i wz => ∃ j : Nat, i = .int .i64 (j : Int) ∧ j ≤ 13 ∧ wr = wz ∧ Hid (∀ i, i < j → ∀ u, V i = some u → ((cnt V u 13 : Nat) : Int) < k)) (fun i _ => 13 - (intOf i).toNat)
      case atStart => exact ⟨0, rfl, by omega, rfl, fun i hi => by omega⟩
      case round =>
        obtain ⟨j, rfl, hj, rfl, HF⟩ := hrel
        by_cases hlt : j < 13
        · have hli : (j : Int) < 13 := by omega
          have hl0 : (0 : Int) ≤ (j : Int) := by omega
          have ix : ∀ W : World, (Instr.index 54 (.agg va) (.int .i64 (j : Int))).run Try.prog W = .ok (.bool (V j).isSome) W := fun W => run_index54 va j _ hlt (hidx.out j hlt) W
          cases hVj : V j with
          | none =>
            rw [hVj] at ix
            simp only [Option.isSome_none] at ix
            have HF2 : Hid (∀ i, i < j + 1 → ∀ u, V i = some u → ((cnt V u 13 : Nat) : Int) < k) := by
              intro i hi u hu
              rcases Nat.lt_or_ge i j with h | h
              · exact HF.out i h u hu
              · have : i = j := by omega
                subst this
                rw [hVj] at hu
                cases hu
            clear hVj
            go_wp2_with fail
            go_roundw
            case rel => exact ⟨j + 1, by go_num, by omega, trivial, HF2⟩
            case measure => simp [intOf]; omega
          | some u =>
            rw [hVj] at ix
            simp only [Option.isSome_some] at ix
            have hu := HVW.out j u hVj
            have k5 := HS.out wr BB.out j u hlt hVj
            obtain ⟨c, hrun, hc⟩ := HI.out u hu
            have HC := Lib.hid hc
            clear hc
            by_cases hck : k ≤ c
            · have kc := fun (W : World) => Lib.run_convert_string_bytes (P := Try.prog) W 9 37 5 (strOf u) Try.underlying9 Try.underlying37 Try.underlying5
              have HRD := Lib.hid (rd_bytes wr u hu.1 hu.2)
              have HBD := Lib.hid (below_bytes wr (strOf u))
              have HV0 := Lib.hid hVj
              have hsz := strOf_size u
              rw [hsz] at kc
              clear hVj hu
              go_wp2_with fail
              go_ret2
              refine ⟨BB.out.trans (HBD.out.mono BB.out.size), .inl ⟨u, _, _, j, hlt, HV0.out, by rw [← HC.out]; exact hck, rfl, ?_⟩⟩
              have := HRD.out.more (B' := (Lib.bytesWorld wr 5 (strOf u)).heap.size) (by rw [Lib.bytesWorld_size]; omega)
              rw [hsz] at this
              exact this
            · have HF2 : Hid (∀ i, i < j + 1 → ∀ u, V i = some u → ((cnt V u 13 : Nat) : Int) < k) := by
                intro i hi v hv
                rcases Nat.lt_or_ge i j with h | h
                · exact HF.out i h v hv
                · have : i = j := by omega
                  subst this
                  rw [hVj] at hv
                  injection hv with hv
                  subst hv
                  have := HC.out
                  omega
              clear hVj hu
              go_wp2_with fail
              go_roundw
              case rel => exact ⟨j + 1, by go_num, by omega, trivial, HF2⟩
              case measure => simp [intOf]; omega
        · have hli : ¬ (j : Int) < 13 := by omega
          have hj13 : j = 13 := by omega
          subst hj13
          go_wp2_with fail
          go_ret2
          exact ⟨BB.out, .inr ⟨rfl, HF.out⟩⟩
end Go.Proofs.Ytleclkggdhofmaa
