/- WireReads: what a reader answers to any asks, over any bytes, how many are left, and what was wrong, is the reference's; for every input, no condition. -/
import Derived.Test.YtjfpfgogbpiknaaRows
import Derived.Test.YtjfpfgogbpiknaaReadsW
import Derived.Deep.Slices
import Derived.Deep.Fields
import Derived.WalkKit
import Derived.ProofKit
import Derived.OpenShut
import Derived.ShutString
import Derived.ChangeOld
import Derived.Below
namespace Go.Proofs.Ytjfpfgogbpiknaa.wireReads
open Go.ChangeShapes Go.WideShapes Go.ChangeAt Go.RowKit
open Go.ChangeMaps (open_string shut_string)
set_option linter.unusedVariables false
set_option linter.unusedSimpArgs false

theorem own : ownKnob Try.prog.godebug = none := by kernel_rfl
theorem laidOut : laidOutB Try.prog = true := by kernel_rfl

theorem bytes_of {H : Type} {enc : TypeId × Value → H} {w : World} {a : Option Addr} {len cap : Nat} {d : DataW H} {p : List MemPlace} (h : DataW.Trod enc Try.prog w 0 (fun _ => true) true 22 (.slice a len cap) d p) :
    ∃ xs : List Nat, len = xs.length ∧ Rd w w.heap.size a cap xs := by
  obtain ⟨fuel, hf⟩ := h
  rcases open_ints Try.underlying22 Try.underlying5 (by kernel_rfl) hf with ⟨hcs, _⟩ | ⟨x, l, c, zs, hcs, _, hl, hm, hz, _, hcell, hwz⟩
  · simp [Value.cells] at hcs
    obtain ⟨rfl, rfl, rfl⟩ := hcs
    exact rd_of_row (zs := []) (.inl ⟨rfl, rfl, rfl, rfl⟩)
  · simp [Value.cells] at hcs
    obtain ⟨rfl, rfl, rfl⟩ := hcs
    exact rd_of_row (.inr ⟨_, rfl, hl, hm, by simpa using hz, hcell, hwz⟩)

theorem cells47 : Try.prog.cellsOf 47 = 2 := by kernel_rfl
theorem cells3 : Try.prog.cellsOf 3 = 1 := by kernel_rfl
theorem asks_of {H : Type} {enc : TypeId × Value → H} {w : World} {a : Option Addr} {len cap : Nat} {d : DataW H} {p : List MemPlace} (h : DataW.Trod enc Try.prog w 0 (fun _ => true) true 42 (.slice a len cap) d p) :
    ∃ qs : List (Int × Int), len = qs.length ∧ Asks w w.heap.size a qs ∧ qs.length ≤ maxLen := by
  obtain ⟨fuel, hf⟩ := h
  simp only [Value.cells] at hf
  rcases Go.Deep.open_slice Try.underlying42 hf with ⟨hcs, _⟩ | ⟨a', len', cap', m, n, D, Pl, hcs, _, hl, hm, hmm, _, hi⟩
  · injection hcs with hcs _
    injection hcs with h1 h2 h3
    subst h1 h2
    exact ⟨[], rfl, fun h => absurd h (by simp), by simp⟩
  · injection hcs with hcs _
    injection hcs with h1 h2 h3
    subst h1 h2 h3
    have hmc : m = cap := by simpa using hmm
    by_cases hlen : 0 < len
    · have hs : a'.spot = none := by
        obtain ⟨cs', hc, _⟩ := hi 0 (by omega)
        rw [cells47] at hc
        obtain ⟨_, hl2, hat⟩ := World.cells?_some hc
        have c0 := hat 0 (by omega)
        rw [List.getElem?_eq_getElem (by omega)] at c0
        have h1 := World.cell?_spot c0
        simpa [Addr.add] using h1
      obtain ⟨b, o, sp⟩ := a'
      subst hs
      have hall : ∀ i, ∃ q : Int × Int, i < len → b < w.heap.size ∧ w.cell? ⟨b, o + i * 2, none⟩ = some (.int .i64 q.1) ∧ w.cell? ⟨b, o + i * 2 + 1, none⟩ = some (.int .i64 q.2) ∧ -9223372036854775808 ≤ q.2 ∧ q.2 ≤ 9223372036854775807 := by
        intro i
        by_cases hil : i < len
        · obtain ⟨cs', hc, ht'⟩ := hi i (by omega)
          rw [cells47] at hc
          obtain ⟨y0, y1, n', _, hcl, t0, t1⟩ := trod_struct2 Try.underlying47 ht'
          obtain ⟨_, hl2, hat⟩ := World.cells?_some hc
          match cs', hl2 with
          | [v0, v1], _ =>
            have c0 := hat 0 (by omega)
            have c1 := hat 1 (by omega)
            simp only [cells3] at t0 t1
            obtain ⟨p, e0, _, _⟩ := DataW.trod_int Try.underlying3 t0
            obtain ⟨q, e1, _, wq⟩ := DataW.trod_int Try.underlying3 t1
            simp at e0 e1
            subst e0 e1
            have hb := wf_i64 wq
            have c0' : w.cell? ⟨b, o + i * 2, none⟩ = some (.int .i64 p) := by simpa [Addr.add_lit] using c0
            have c1' : w.cell? ⟨b, o + i * 2 + 1, none⟩ = some (.int .i64 q) := by simpa [Addr.add_lit] using c1
            have hbl : b < w.heap.size := block_lt_of_cell c0'
            exact ⟨(p, q), fun _ => ⟨hbl, c0', c1', hb.1, hb.2⟩⟩
        · exact ⟨(0, 0), fun h => absurd h hil⟩
      have hbl := (Classical.choose_spec (hall 0) hlen).1
      refine ⟨(List.range len).map fun i => Classical.choose (hall i), by simp, fun _ => ⟨b, o, rfl, hbl, fun j q hj => ?_⟩, by simp; omega⟩
      rw [List.getElem?_map, Option.map_eq_some_iff] at hj
      obtain ⟨i, hi2, rfl⟩ := hj
      obtain ⟨hil, rfl⟩ := List.getElem?_eq_some_iff.1 hi2
      rw [List.length_range] at hil
      rw [List.getElem_range]
      exact (Classical.choose_spec (hall j) hil).2
    · have : len = 0 := by omega
      subst this
      exact ⟨[], rfl, fun h => absurd h (by simp), by simp⟩
theorem walk {w : World} {a0 a1 : Option Addr} {len0 cap0 len1 cap1 : Nat} {z0 : List Nat} {z1 : List (Int × Int)} (hl0 : len0 = z0.length) (w0 : Rd w w.heap.size a0 cap0 z0) (hl1 : len1 = z1.length) (w1 : Asks w w.heap.size a1 z1 ∧ z1.length ≤ maxLen) :
    Calls Try.prog 8 #[.slice a0 len0 cap0, .slice a1 len1 cap1] w (Yes w) := by
  subst hl0 hl1
  have := w1.2
  unfold maxLen at this
  exact wireReads_walk a0 cap0 z0 a1 cap1 z1 w w0 w1.1 (by omega)

set_option maxRecDepth 100000 in
theorem lifted (os : Os) (started : os.Started) (H : Type) (enc : TypeId × Value → H) :
    ReturnsInHanded {} Try.checked os 8 .any (Rows.wireReadsSpec.pre6 enc Try.prog Try.f8 Rows.wireReadsRow.domain false) (Rows.wireReadsSpec.post enc Try.prog Try.f8 false true false false) := by
  refine returnsInHanded_of_change (C := Try.checked) own started (by kernel_rfl) Try.func8
    (ChangeSpec.witness6 (enc := enc) (C := Try.checked) false ⟨#[], #[.slice none 0 0, .slice none 0 0], []⟩ 8 (by kernel_rfl) (by kernel_rfl) (by kernel_rfl) (by kernel_rfl)) ?_
  intro W base args ds gs before hval0 hW hcnd hsized
  have hval : ∀ (j : Nat) t v, Try.f8.params[j]? = some t → args[j]? = some v → Value.okWide Try.prog W .any base t v := hval0
  have hW' := hW
  obtain ⟨p, q, hA0, hV, rfl, hfz, hnd⟩ := hW
  have hA : DataW.TrodAll enc Try.prog W 0 (fun _ => true) true Try.f8.params.toList args.toList ds p := hA0
  rw [Try.params8] at hA hval
  obtain ⟨v0, vs0, d0, ds0, p0, q0, hargs, rfl, rfl, h0, r0⟩ := trodAll_cons hA
  obtain ⟨v1, vs1, d1, ds1, p1, q1, rfl, rfl, rfl, h1, r1⟩ := trodAll_cons r0
  obtain ⟨rfl, rfl, rfl⟩ := trodAll_nil r1
  obtain rfl : args = #[v0, v1] := by cases args; simp_all
  obtain ⟨rfl, rfl⟩ := trodVars_none hV
  obtain ⟨a0, len0, cap0, rfl⟩ := okWide_slice Try.underlying22 (hval 0 22 v0 rfl rfl)
  have k0 := h0
  have lt0 : ∀ x ∈ p0, x.block < W.heap.size := by obtain ⟨m, hm⟩ := k0; exact DataW.trod_lt m _ _ _ hm
  obtain ⟨z0, hl0, w0⟩ := bytes_of h0
  obtain ⟨a1, len1, cap1, rfl⟩ := okWide_slice Try.underlying42 (hval 1 42 v1 rfl rfl)
  have k1 := h1
  have lt1 : ∀ x ∈ p1, x.block < W.heap.size := by obtain ⟨m, hm⟩ := k1; exact DataW.trod_lt m _ _ _ hm
  obtain ⟨z1, hl1, w1⟩ := asks_of h1
  clear hA0 hval0
  refine (walk hl0 w0 hl1 w1).mono fun e W' ⟨he, bel⟩ => ?_
  subst he
  exact ⟨_, rfl, _, _, _, [], _, [], hW', trodAll_mk1 (shut_bool Try.underlying4 _), (trodAll_cons_mk (Below.trod laidOut (by kernel_rfl) (of_decide_eq_true (by kernel_rfl)) k0 bel lt0) (trodAll_cons_mk (Below.trod laidOut (by kernel_rfl) (of_decide_eq_true (by kernel_rfl)) k1 bel lt1) trodAll_mk0)), rfl, bel.frame _, fun h => by cases h⟩

theorem over : Rows.wireReadsRow.holds Try.pinned (OpenSpec.ofChange Rows.wireReadsSpec) :=
  OpenClaim.holds_of_wide 8 Try.f8 rfl rfl rfl rfl rfl rfl rfl ⟨rfl, rfl, rfl, rfl, rfl⟩ rfl rfl rfl rfl rfl (by kernel_rfl) Try.func8 (by kernel_rfl)
    (of_decide_eq_true (by kernel_rfl)) (by unfold Func.isWrapper; first | (rw [if_pos (by decide +kernel)]; kernel_rfl) | (rw [if_neg (by decide +kernel)]; exact ⟨rfl, rfl⟩))
    (fun os started H enc _ => lifted os started H enc)

/-- THE STATEMENT. -/
theorem proved : Rows.WireReadsSaid := over
#print axioms proved
end Go.Proofs.Ytjfpfgogbpiknaa.wireReads
