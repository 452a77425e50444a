/- Arguments opened to the words of the walks: a slice of bytes that came in reads as a list; no condition. -/
import Derived.Test.YtleclkggdhofmaaCodeE
import Derived.Below
import Derived.ProofKit
namespace Go.Proofs.Ytleclkggdhofmaa
open Go.RowKit
set_option linter.unusedVariables false
set_option linter.unusedSimpArgs false

theorem wf_u8 {n : Int} (h : (Lit.int .u8 n).wf = true) : 0 ≤ n ∧ n < 256 := by
  simp [Lit.wf, IntKind.min, IntKind.max, IntKind.bits, IntKind.signed] at h
  omega
theorem wf_u64 {n : Int} (h : (Lit.int .u64 n).wf = true) : 0 ≤ n ∧ n < 18446744073709551616 := by
  simp [Lit.wf, IntKind.min, IntKind.max, IntKind.bits, IntKind.signed] at h
  omega
theorem wf_i64 {n : Int} (h : (Lit.int .i64 n).wf = true) : -9223372036854775808 ≤ n ∧ n ≤ 9223372036854775807 := by
  simp [Lit.wf, IntKind.min, IntKind.max, IntKind.bits, IntKind.signed] at h
  omega

theorem rd_of_row {w : World} {a : Option Addr} {len cap : Nat} {zs : List Int}
    (h : (a = none ∧ len = 0 ∧ cap = 0 ∧ zs = []) ∨ ∃ x, a = some x ∧ len ≤ cap ∧ cap ≤ maxLen ∧ zs.length = cap ∧ (∀ i, i < zs.length → w.cell? (x.add i) = some (.int .u8 (zs.getD i 0))) ∧ ∀ n ∈ zs, (Lit.int .u8 n).wf = true) :
    ∃ xs : List Nat, len = xs.length ∧ Rd w w.heap.size a cap xs := by
  rcases h with ⟨rfl, rfl, rfl, rfl⟩ | ⟨x, rfl, hl, hm, hz, hc, hw⟩
  · exact ⟨[], rfl, Rd.nil_ _ _⟩
  · refine ⟨(zs.take len).map Int.toNat, by rw [List.length_map, List.length_take]; omega, by rw [List.length_map, List.length_take]; omega, hm, ?_, ?_⟩
    · intro y hy
      obtain ⟨z, hz', rfl⟩ := List.mem_map.1 hy
      have := wf_u8 (hw z (List.mem_of_mem_take hz'))
      omega
    · intro hn
      rw [List.length_map, List.length_take] at hn
      refine ⟨x, rfl, ?_, ?_⟩
      · have := block_lt_of_cell (hc 0 (by omega))
        rwa [add_block] at this
      · intro j y hj
        rw [List.getElem?_map, Option.map_eq_some_iff] at hj
        obtain ⟨z, hz', rfl⟩ := hj
        rw [List.getElem?_take] at hz'
        split at hz'
        · have hj2 := (List.getElem?_eq_some_iff.1 hz').1
          rw [hc j hj2]
          have hzm := hw z (List.mem_of_getElem? hz')
          have := wf_u8 hzm
          have e : zs.getD j 0 = z := by rw [List.getD_eq_getElem?_getD, hz']; rfl
          rw [e]
          unfold bv
          congr 2
          omega
        · cases hz'
end Go.Proofs.Ytleclkggdhofmaa
