/- WireBack: a list of numbers, bytes and truths that was put is read as it was; for every input, no condition. -/
import Derived.Test.YtjfpfgogbpiknaaRows
import Derived.Test.YtjfpfgogbpiknaaBackW
import Derived.Deep.Slices
import Derived.Deep.Fields
import Derived.WalkKit
import Derived.ProofKit
import Derived.OpenShut
import Derived.ShutString
import Derived.ChangeOld
import Derived.Below
namespace Go.Proofs.Ytjfpfgogbpiknaa.wireBack
open Go.ChangeShapes Go.WideShapes Go.ChangeAt Go.RowKit
open Go.ChangeMaps (open_string shut_string)
set_option linter.unusedVariables false
set_option linter.unusedSimpArgs false

theorem own : ownKnob Try.prog.godebug = none := by kernel_rfl
theorem laidOut : laidOutB Try.prog = true := by kernel_rfl

theorem bytes_of {H : Type} {enc : TypeId × Value → H} {w : World} {a : Option Addr} {len cap : Nat} {d : DataW H} {p : List MemPlace} (h : DataW.Trod enc Try.prog w 0 (fun _ => true) true 22 (.slice a len cap) d p) :
    ∃ xs : List Nat, len = xs.length ∧ Rd w w.heap.size a cap xs := by
  obtain ⟨fuel, hf⟩ := h
  rcases open_ints Try.underlying22 Try.underlying5 (by kernel_rfl) hf with ⟨hcs, _⟩ | ⟨x, l, c, zs, hcs, _, hl, hm, hz, _, hcell, hwz⟩
  · simp [Value.cells] at hcs
    obtain ⟨rfl, rfl, rfl⟩ := hcs
    exact rd_of_row (zs := []) (.inl ⟨rfl, rfl, rfl, rfl⟩)
  · simp [Value.cells] at hcs
    obtain ⟨rfl, rfl, rfl⟩ := hcs
    exact rd_of_row (.inr ⟨_, rfl, hl, hm, by simpa using hz, hcell, hwz⟩)

theorem cells26 : Try.prog.cellsOf 26 = 1 := by kernel_rfl
theorem cells22 : Try.prog.cellsOf 22 = 1 := by kernel_rfl
theorem cells4 : Try.prog.cellsOf 4 = 1 := by kernel_rfl
theorem nums_of {H : Type} {enc : TypeId × Value → H} {w : World} {a : Option Addr} {len cap : Nat} {d : DataW H} {p : List MemPlace} (h : DataW.Trod enc Try.prog w 0 (fun _ => true) true 52 (.slice a len cap) d p) :
    ∃ ns : List Nat, len = ns.length ∧ Nums w w.heap.size a ns ∧ ns.length ≤ maxLen := by
  obtain ⟨fuel, hf⟩ := h
  rcases open_ints Try.underlying52 Try.underlying26 (by kernel_rfl) hf with ⟨hcs, _⟩ | ⟨x, l, c, zs, hcs, _, hl, hm, hz, _, hcell, hwz⟩
  · simp [Value.cells] at hcs
    obtain ⟨rfl, rfl, rfl⟩ := hcs
    exact ⟨[], rfl, fun h => absurd h (by simp), by simp⟩
  · simp [Value.cells] at hcs
    obtain ⟨rfl, rfl, rfl⟩ := hcs
    have hz : zs.length = cap := by simpa using hz
    refine ⟨(zs.take len).map Int.toNat, by simp; omega, fun hn => ⟨x, rfl, ?_, fun j y hj => ?_⟩, by simp; omega⟩
    · rw [List.length_map, List.length_take] at hn
      have := block_lt_of_cell (hcell 0 (by omega))
      rwa [add_block] at this
    · rw [List.getElem?_map, Option.map_eq_some_iff] at hj
      obtain ⟨z, hz', rfl⟩ := hj
      rw [List.getElem?_take] at hz'
      split at hz'
      · have hj2 := (List.getElem?_eq_some_iff.1 hz').1
        have hb := wf_u64 (hwz z (List.mem_of_getElem? hz'))
        have e : zs.getD j 0 = z := by rw [List.getD_eq_getElem?_getD, hz']; rfl
        rw [hcell j hj2, e]
        exact ⟨by congr 2; omega, by omega⟩
      · cases hz'
/-- The elements of a slice that came in, one cell each. -/
theorem elems_of {H : Type} {enc : TypeId × Value → H} {w : World} {a : Option Addr} {len cap fuel t e : Nat} {x : DataW H × List MemPlace} {α : Type} (Q : α → Value → Prop)
    (ht : Try.prog.underlying t = some (.slice e)) (hce : Try.prog.cellsOf e = 1) (hf : DataW.trod enc Try.prog w 0 (fun _ => true) true fuel t [.slice a len cap] = some x)
    (hQ : ∀ n v y, DataW.trod enc Try.prog w 0 (fun _ => true) true n e [v] = some y → ∃ q, Q q v) :
    ∃ qs : List α, len = qs.length ∧ qs.length ≤ maxLen ∧ (0 < qs.length → ∃ ad, a = some ad ∧ ad.block < w.heap.size ∧ ∀ (j : Nat) (q : α), qs[j]? = some q → ∃ v, w.cell? (ad.add j) = some v ∧ Q q v) := by
  rcases Go.Deep.open_slice ht hf with ⟨hcs, _⟩ | ⟨a', len', cap', m, n, D, Pl, hcs, _, hl, hm, hmm, _, hi⟩
  · injection hcs with hcs _
    injection hcs with h1 h2 h3
    subst h1 h2
    exact ⟨[], rfl, by simp, fun h => absurd h (by simp)⟩
  · injection hcs with hcs _
    injection hcs with h1 h2 h3
    subst h1 h2 h3
    have hmc : m = cap := by simpa using hmm
    have hall : ∀ i, i < len → ∃ q, ∃ v, w.cell? (a'.add i) = some v ∧ Q q v := by
      intro i hil
      obtain ⟨cs', hc, ht'⟩ := hi i (by omega)
      rw [hce, Nat.mul_one] at hc
      obtain ⟨_, hl2, hat⟩ := World.cells?_some hc
      match cs', hl2 with
      | [v0], _ =>
        have c0 := hat 0 (by omega)
        obtain ⟨q, hq⟩ := hQ _ _ _ ht'
        exact ⟨q, v0, by simpa [Addr.add] using c0, hq⟩
    refine ⟨(List.range len).attach.map fun i => Classical.choose (hall i.1 (List.mem_range.1 i.2)), by simp, by simp; omega, fun hn => ⟨a', rfl, ?_, fun j q hj => ?_⟩⟩
    · rw [List.length_map, List.length_attach, List.length_range] at hn
      obtain ⟨_, v, hv, _⟩ := hall 0 hn
      have := block_lt_of_cell hv
      rwa [add_block] at this
    · rw [List.getElem?_map, Option.map_eq_some_iff] at hj
      obtain ⟨i, hi2, rfl⟩ := hj
      have hij : i.1 = j := by
        obtain ⟨hjl, hi3⟩ := List.getElem?_eq_some_iff.1 hi2
        rw [← hi3]
        simp
      obtain ⟨v, hv, hq⟩ := Classical.choose_spec (hall i.1 (List.mem_range.1 i.2))
      exact ⟨v, by rw [← hij]; exact hv, hq⟩
theorem parts_of {H : Type} {enc : TypeId × Value → H} {w : World} {a : Option Addr} {len cap : Nat} {d : DataW H} {p : List MemPlace} (h : DataW.Trod enc Try.prog w 0 (fun _ => true) true 53 (.slice a len cap) d p) :
    ∃ ps : List (List Nat), len = ps.length ∧ Parts w w.heap.size a ps ∧ ps.length ≤ maxLen := by
  obtain ⟨fuel, hf⟩ := h
  simp only [Value.cells] at hf
  obtain ⟨qs, h1, h2, h3⟩ := elems_of (fun (p : List Nat) v => ∃ Aj cj, v = .slice Aj p.length cj ∧ Rd w w.heap.size Aj cj p) Try.underlying53 cells22 hf (fun n v y hv => by
    have hs : ∃ a l c, v = .slice a l c := by
      rcases open_ints Try.underlying22 Try.underlying5 (by kernel_rfl) hv with ⟨hcs, _⟩ | ⟨x, l, c, zs, hcs, _⟩
      · injection hcs with hcs _; exact ⟨_, _, _, hcs⟩
      · injection hcs with hcs _; exact ⟨_, _, _, hcs⟩
    obtain ⟨a, l, c, rfl⟩ := hs
    obtain ⟨xs, rfl, hx⟩ := bytes_of (a := a) (len := l) (cap := c) (d := y.1) (p := y.2) ⟨n, hv⟩
    exact ⟨xs, a, c, rfl, hx⟩)
  refine ⟨qs, h1, fun hn => ?_, h2⟩
  obtain ⟨ad, e, hb, hc⟩ := h3 hn
  refine ⟨ad, e, hb, fun j p hj => ?_⟩
  obtain ⟨v, hv, Aj, cj, rfl, hr⟩ := hc j p hj
  exact ⟨Aj, cj, hv, hr⟩
theorem truths_of {H : Type} {enc : TypeId × Value → H} {w : World} {a : Option Addr} {len cap : Nat} {d : DataW H} {p : List MemPlace} (h : DataW.Trod enc Try.prog w 0 (fun _ => true) true 54 (.slice a len cap) d p) :
    ∃ ts : List Bool, len = ts.length ∧ Truths w w.heap.size a ts ∧ ts.length ≤ maxLen := by
  obtain ⟨fuel, hf⟩ := h
  simp only [Value.cells] at hf
  obtain ⟨qs, h1, h2, h3⟩ := elems_of (fun (b : Bool) v => v = .bool b) Try.underlying54 cells4 hf (fun n v y hv => by
    obtain ⟨b, hb, _⟩ := DataW.trod_bool Try.underlying4 hv
    injection hb with hb _
    exact ⟨b, hb⟩)
  refine ⟨qs, h1, fun hn => ?_, h2⟩
  obtain ⟨ad, e, hb, hc⟩ := h3 hn
  refine ⟨ad, e, hb, fun j p hj => ?_⟩
  obtain ⟨v, hv, rfl⟩ := hc j p hj
  exact hv
theorem walk {w : World} {a0 a1 a2 : Option Addr} {len0 cap0 len1 cap1 len2 cap2 : Nat} {z0 : List Nat} {z1 : List (List Nat)} {z2 : List Bool} (hl0 : len0 = z0.length) (w0 : Nums w w.heap.size a0 z0 ∧ z0.length ≤ maxLen) (hl1 : len1 = z1.length) (w1 : Parts w w.heap.size a1 z1 ∧ z1.length ≤ maxLen)
    (hl2 : len2 = z2.length) (w2 : Truths w w.heap.size a2 z2 ∧ z2.length ≤ maxLen) :
    Calls Try.prog 10 #[.slice a0 len0 cap0, .slice a1 len1 cap1, .slice a2 len2 cap2] w (Yes w) := by
  subst hl0 hl1 hl2
  have b0 := w0.2
  have b1 := w1.2
  have b2 := w2.2
  unfold maxLen at b0 b1 b2
  exact wireBack_walk a0 cap0 z0 a1 cap1 z1 a2 cap2 z2 w w0.1 w1.1 w2.1 (by omega) (by omega) (by omega)

set_option maxRecDepth 100000 in
theorem lifted (os : Os) (started : os.Started) (H : Type) (enc : TypeId × Value → H) :
    ReturnsInHanded {} Try.checked os 10 .any (Rows.wireBackSpec.pre6 enc Try.prog Try.f10 Rows.wireBackRow.domain false) (Rows.wireBackSpec.post enc Try.prog Try.f10 false true false false) := by
  refine returnsInHanded_of_change (C := Try.checked) own started (by kernel_rfl) Try.func10
    (ChangeSpec.witness6 (enc := enc) (C := Try.checked) false ⟨#[], #[.slice none 0 0, .slice none 0 0, .slice none 0 0], []⟩ 8 (by kernel_rfl) (by kernel_rfl) (by kernel_rfl) (by kernel_rfl)) ?_
  intro W base args ds gs before hval0 hW hcnd hsized
  have hval : ∀ (j : Nat) t v, Try.f10.params[j]? = some t → args[j]? = some v → Value.okWide Try.prog W .any base t v := hval0
  have hW' := hW
  obtain ⟨p, q, hA0, hV, rfl, hfz, hnd⟩ := hW
  have hA : DataW.TrodAll enc Try.prog W 0 (fun _ => true) true Try.f10.params.toList args.toList ds p := hA0
  rw [Try.params10] at hA hval
  obtain ⟨v0, vs0, d0, ds0, p0, q0, hargs, rfl, rfl, h0, r0⟩ := trodAll_cons hA
  obtain ⟨v1, vs1, d1, ds1, p1, q1, rfl, rfl, rfl, h1, r1⟩ := trodAll_cons r0
  obtain ⟨v2, vs2, d2, ds2, p2, q2, rfl, rfl, rfl, h2, r2⟩ := trodAll_cons r1
  obtain ⟨rfl, rfl, rfl⟩ := trodAll_nil r2
  obtain rfl : args = #[v0, v1, v2] := by cases args; simp_all
  obtain ⟨rfl, rfl⟩ := trodVars_none hV
  obtain ⟨a0, len0, cap0, rfl⟩ := okWide_slice Try.underlying52 (hval 0 52 v0 rfl rfl)
  have k0 := h0
  have lt0 : ∀ x ∈ p0, x.block < W.heap.size := by obtain ⟨m, hm⟩ := k0; exact DataW.trod_lt m _ _ _ hm
  obtain ⟨z0, hl0, w0⟩ := nums_of h0
  obtain ⟨a1, len1, cap1, rfl⟩ := okWide_slice Try.underlying53 (hval 1 53 v1 rfl rfl)
  have k1 := h1
  have lt1 : ∀ x ∈ p1, x.block < W.heap.size := by obtain ⟨m, hm⟩ := k1; exact DataW.trod_lt m _ _ _ hm
  obtain ⟨z1, hl1, w1⟩ := parts_of h1
  obtain ⟨a2, len2, cap2, rfl⟩ := okWide_slice Try.underlying54 (hval 2 54 v2 rfl rfl)
  have k2 := h2
  have lt2 : ∀ x ∈ p2, x.block < W.heap.size := by obtain ⟨m, hm⟩ := k2; exact DataW.trod_lt m _ _ _ hm
  obtain ⟨z2, hl2, w2⟩ := truths_of h2
  clear hA0 hval0
  refine (walk hl0 w0 hl1 w1 hl2 w2).mono fun e W' ⟨he, bel⟩ => ?_
  subst he
  exact ⟨_, rfl, _, _, _, [], _, [], hW', trodAll_mk1 (shut_bool Try.underlying4 _), (trodAll_cons_mk (Below.trod laidOut (by kernel_rfl) (of_decide_eq_true (by kernel_rfl)) k0 bel lt0) (trodAll_cons_mk (Below.trod laidOut (by kernel_rfl) (of_decide_eq_true (by kernel_rfl)) k1 bel lt1) (trodAll_cons_mk (Below.trod laidOut (by kernel_rfl) (of_decide_eq_true (by kernel_rfl)) k2 bel lt2) trodAll_mk0))), rfl, bel.frame _, fun h => by cases h⟩

theorem over : Rows.wireBackRow.holds Try.pinned (OpenSpec.ofChange Rows.wireBackSpec) :=
  OpenClaim.holds_of_wide 10 Try.f10 rfl rfl rfl rfl rfl rfl rfl ⟨rfl, rfl, rfl, rfl, rfl⟩ rfl rfl rfl rfl rfl (by kernel_rfl) Try.func10 (by kernel_rfl)
    (of_decide_eq_true (by kernel_rfl)) (by unfold Func.isWrapper; first | (rw [if_pos (by decide +kernel)]; kernel_rfl) | (rw [if_neg (by decide +kernel)]; exact ⟨rfl, rfl⟩))
    (fun os started H enc _ => lifted os started H enc)

/-- THE STATEMENT. -/
theorem proved : Rows.WireBackSaid := over
#print axioms proved
end Go.Proofs.Ytjfpfgogbpiknaa.wireBack
