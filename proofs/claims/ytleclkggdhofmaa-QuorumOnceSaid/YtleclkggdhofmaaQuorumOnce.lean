/- QuorumOnce: each replica's vote counts once, counts are never above N, and two words never both have Most votes; for every input, no condition. -/
import Derived.Test.YtleclkggdhofmaaRows
import Derived.Test.YtleclkggdhofmaaOnceW
import Derived.Deep.Slices
import Derived.Deep.Fields
import Derived.Deep.Strs
import Derived.WalkKit
import Derived.ProofKit
import Derived.OpenShut
import Derived.ShutString
import Derived.ChangeOld
import Derived.Below
namespace Go.Proofs.Ytleclkggdhofmaa.quorumOnce
open Go.ChangeShapes Go.WideShapes Go.ChangeAt Go.RowKit
open Go.ChangeMaps (open_string shut_string)
set_option linter.unusedVariables false
set_option linter.unusedSimpArgs false

theorem own : ownKnob Try.prog.godebug = none := by kernel_rfl
theorem laidOut : laidOutB Try.prog = true := by kernel_rfl

theorem bytes_of {H : Type} {enc : TypeId × Value → H} {w : World} {v : Value} {n : Nat} {y : DataW H × List MemPlace} (hf : DataW.trod enc Try.prog w 0 (fun _ => true) true n 37 [v] = some y) :
    ∃ (a : Option Addr) (c : Nat) (xs : List Nat), v = .slice a xs.length c ∧ Rd w w.heap.size a c xs := by
  rcases open_ints Try.underlying37 Try.underlying5 (by kernel_rfl) hf with ⟨hcs, _⟩ | ⟨x, l, c, zs, hcs, _, hl, hm, hz, _, hcell, hwz⟩
  · injection hcs with hcs _
    exact ⟨none, 0, [], hcs, Rd.nil_ _ _⟩
  · injection hcs with hcs _
    subst hcs
    obtain ⟨xs, rfl, hx⟩ := rd_of_row (.inr ⟨x, rfl, hl, hm, by simpa using hz, hcell, hwz⟩)
    exact ⟨_, _, xs, rfl, hx⟩

theorem cells41 : Try.prog.cellsOf 41 = 4 := by kernel_rfl
theorem cells39 : Try.prog.cellsOf 39 = 3 := by kernel_rfl
theorem cells37 : Try.prog.cellsOf 37 = 1 := by kernel_rfl
theorem cells22 : Try.prog.cellsOf 22 = 1 := by kernel_rfl
theorem votes_of {H : Type} {enc : TypeId × Value → H} {w : World} {a : Option Addr} {len cap : Nat} {d : DataW H} {p : List MemPlace} (h : DataW.Trod enc Try.prog w 0 (fun _ => true) true 32 (.slice a len cap) d p) :
    ∃ l : List Row, len = l.length ∧ Ballots w w.heap.size a l := by
  obtain ⟨fuel, hf⟩ := h
  simp only [Value.cells] at hf
  rcases Go.Deep.open_slice Try.underlying32 hf with ⟨hcs, _⟩ | ⟨a', len', cap', m, n, D, Pl, hcs, _, hl, hm, hmm, _, hi⟩
  · injection hcs with hcs _
    injection hcs with h1 h2 h3
    subst h1 h2
    exact ⟨[], rfl, fun h => absurd h (by simp)⟩
  · injection hcs with hcs _
    injection hcs with h1 h2 h3
    subst h1 h2 h3
    have hmc : m = cap := by simpa using hmm
    by_cases hlen : 0 < len
    · have hs : a'.spot = none := by
        obtain ⟨cs', hc, _⟩ := hi 0 (by omega)
        rw [cells41] at hc
        obtain ⟨_, hl2, hat⟩ := World.cells?_some hc
        have c0 := hat 0 (by omega)
        rw [List.getElem?_eq_getElem (by omega)] at c0
        have h1 := World.cell?_spot c0
        simpa [Addr.add] using h1
      obtain ⟨b, o, sp⟩ := a'
      subst hs
      have hall : ∀ i, ∃ r : Row, i < len → b < w.heap.size ∧ Rows4 w b o i r ∧ r.x < 18446744073709551616 ∧ Rd w w.heap.size r.A3 r.c3 r.xs := by
        intro i
        by_cases hil : i < len
        · obtain ⟨cs', hc, ht'⟩ := hi i (by omega)
          rw [cells41] at hc
          obtain ⟨y0, y1, n', _, hcl, t0, t1⟩ := trod_struct2 Try.underlying41 ht'
          obtain ⟨_, hl2, hat⟩ := World.cells?_some hc
          match cs', hl2 with
          | [v0, v1, v2, v3], _ =>
            have c0 := hat 0 (by omega)
            have c1 := hat 1 (by omega)
            have c2 := hat 2 (by omega)
            have c3 := hat 3 (by omega)
            simp only [cells39, cells37] at t0 t1
            obtain ⟨z0, z1, z2, n2, _, _, s0, s1, s2⟩ := Go.Deep.trod_struct3 Try.underlying39 t0
            simp only [cells22, cells37] at s0 s1 s2
            obtain ⟨x, e0, _, wx⟩ := DataW.trod_int Try.underlying22 s0
            obtain ⟨A1, d1, xs1, rfl, _⟩ := bytes_of (v := v1) s1
            obtain ⟨A2, d2, xs2, rfl, _⟩ := bytes_of (v := v2) s2
            obtain ⟨A3, d3, xs3, rfl, hr⟩ := bytes_of (v := v3) t1
            simp at e0
            subst e0
            have hb := wf_u64 wx
            obtain ⟨xn, rfl⟩ := Int.eq_ofNat_of_zero_le hb.1
            have c0' : w.cell? ⟨b, o + i * 4, none⟩ = some (.int .u64 (xn : Int)) := by simpa [Addr.add_lit] using c0
            have c1' : w.cell? ⟨b, o + i * 4 + 1, none⟩ = some (.slice A1 xs1.length d1) := by simpa [Addr.add_lit] using c1
            have c2' : w.cell? ⟨b, o + i * 4 + 2, none⟩ = some (.slice A2 xs2.length d2) := by simpa [Addr.add_lit] using c2
            have c3' : w.cell? ⟨b, o + i * 4 + 3, none⟩ = some (.slice A3 xs3.length d3) := by simpa [Addr.add_lit] using c3
            have hbl : b < w.heap.size := block_lt_of_cell c0'
            exact ⟨⟨xn, xs1.length, d1, xs2.length, d2, d3, A1, A2, A3, xs3⟩, fun _ => ⟨hbl, ⟨c0', c1', c2', c3'⟩, (by show xn < _; omega), hr⟩⟩
        · exact ⟨⟨0, 0, 0, 0, 0, 0, none, none, none, []⟩, fun h => absurd h hil⟩
      have hbl := (Classical.choose_spec (hall 0) hlen).1
      refine ⟨(List.range len).map fun i => Classical.choose (hall i), by simp, fun _ => ⟨b, o, rfl, hbl, fun j q hj => ?_⟩⟩
      rw [List.getElem?_map, Option.map_eq_some_iff] at hj
      obtain ⟨i, hi2, rfl⟩ := hj
      obtain ⟨hil, rfl⟩ := List.getElem?_eq_some_iff.1 hi2
      rw [List.length_range] at hil
      rw [List.getElem_range]
      exact (Classical.choose_spec (hall j) hil).2
    · have : len = 0 := by omega
      subst this
      exact ⟨[], rfl, fun h => absurd h (by simp)⟩
theorem walk {w : World} {f : Int} {a1 : Option Addr} {len1 cap1 : Nat} {z1 : List Row} (hl1 : len1 = z1.length) (w1 : Ballots w w.heap.size a1 z1) :
    Calls Try.prog 6 #[.int .i64 f, .slice a1 len1 cap1] w fun e w' => e = .returned (.bool true) ∧ Below w.heap.size w w' := by
  subst hl1
  exact once_walk f a1 cap1 z1 w w1

set_option maxRecDepth 100000 in
theorem lifted (os : Os) (started : os.Started) (H : Type) (enc : TypeId × Value → H) :
    ReturnsInHanded {} Try.checked os 6 .any (Rows.quorumOnceSpec.pre6 enc Try.prog Try.f6 Rows.quorumOnceRow.domain false) (Rows.quorumOnceSpec.post enc Try.prog Try.f6 false true false false) := by
  refine returnsInHanded_of_change (C := Try.checked) own started (by kernel_rfl) Try.func6
    (ChangeSpec.witness6 (enc := enc) (C := Try.checked) false ⟨#[], #[.int .i64 0, .slice none 0 0], []⟩ 8 (by kernel_rfl) (by kernel_rfl) (by kernel_rfl) (by kernel_rfl)) ?_
  intro W base args ds gs before hval0 hW hcnd hsized
  have hval : ∀ (j : Nat) t v, Try.f6.params[j]? = some t → args[j]? = some v → Value.okWide Try.prog W .any base t v := hval0
  have hW' := hW
  obtain ⟨p, q, hA0, hV, rfl, hfz, hnd⟩ := hW
  have hA : DataW.TrodAll enc Try.prog W 0 (fun _ => true) true Try.f6.params.toList args.toList ds p := hA0
  rw [Try.params6] at hA hval
  obtain ⟨v0, vs0, d0, ds0, p0, q0, hargs, rfl, rfl, h0, r0⟩ := trodAll_cons hA
  obtain ⟨v1, vs1, d1, ds1, p1, q1, rfl, rfl, rfl, h1, r1⟩ := trodAll_cons r0
  obtain ⟨rfl, rfl, rfl⟩ := trodAll_nil r1
  obtain rfl : args = #[v0, v1] := by cases args; simp_all
  obtain ⟨rfl, rfl⟩ := trodVars_none hV
  obtain ⟨a0, rfl, rfl, rfl, w0⟩ := open_int Try.underlying3 (hval 0 3 v0 rfl rfl) h0
  obtain ⟨a1, len1, cap1, rfl⟩ := okWide_slice Try.underlying32 (hval 1 32 v1 rfl rfl)
  have k1 := h1
  have lt1 : ∀ x ∈ p1, x.block < W.heap.size := by obtain ⟨m, hm⟩ := k1; exact DataW.trod_lt m _ _ _ hm
  obtain ⟨z1, hl1, w1⟩ := votes_of h1
  clear hA0 hval0
  refine (walk hl1 w1).mono fun e W' ⟨he, bel⟩ => ?_
  subst he
  exact ⟨_, rfl, _, _, _, [], _, [], hW', trodAll_mk1 (shut_bool Try.underlying4 _), (trodAll_cons_mk (shut_int Try.underlying3 w0) (trodAll_cons_mk (Below.trod laidOut (by kernel_rfl) (of_decide_eq_true (by kernel_rfl)) k1 bel lt1) trodAll_mk0)), rfl, bel.frame _, fun h => by cases h⟩

theorem over : Rows.quorumOnceRow.holds Try.pinned (OpenSpec.ofChange Rows.quorumOnceSpec) :=
  OpenClaim.holds_of_wide 6 Try.f6 rfl rfl rfl rfl rfl rfl rfl ⟨rfl, rfl, rfl, rfl, rfl⟩ rfl rfl rfl rfl rfl (by kernel_rfl) Try.func6 (by kernel_rfl)
    (of_decide_eq_true (by kernel_rfl)) (by unfold Func.isWrapper; first | (rw [if_pos (by decide +kernel)]; kernel_rfl) | (rw [if_neg (by decide +kernel)]; exact ⟨rfl, rfl⟩))
    (fun os started H enc _ => lifted os started H enc)

/-- THE STATEMENT. -/
theorem proved : Rows.QuorumOnceSaid := over
#print axioms proved
end Go.Proofs.Ytleclkggdhofmaa.quorumOnce
