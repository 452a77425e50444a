/- The walk of QuorumMeets: marks, count; no condition. -/
import Derived.Test.YtleclkggdhofmaaTurnsW
namespace Go.Proofs.Ytleclkggdhofmaa
open Go.RowKit
set_option linter.unusedVariables false
set_option linter.unusedSimpArgs false

/-- A slice of numbers that reads as xs, in blocks below B. -/
def RU (w : World) (B : Nat) (A : Option Addr) (c : Nat) (xs : List Nat) : Prop :=
  xs.length ≤ c ∧ c ≤ maxLen ∧ (∀ x ∈ xs, x < 18446744073709551616) ∧ (0 < xs.length → ∃ ad, A = some ad ∧ ad.block < B ∧ ∀ (j x : Nat), xs[j]? = some x → w.cell? (ad.add j) = some (.int .u64 (x : Int)))
theorem RU.below {w w' : World} {B : Nat} {A : Option Addr} {c : Nat} {xs : List Nat} (h : RU w B A c xs) (hb : Below B w w') : RU w' B A c xs :=
  ⟨h.1, h.2.1, h.2.2.1, fun hn => by
    obtain ⟨ad, e, hl, hc⟩ := h.2.2.2 hn
    exact ⟨ad, e, hl, fun j u hu => (hb.cell (by rw [add_block]; exact hl)).trans (hc j u hu)⟩⟩
theorem RU.at_ {w : World} {B : Nat} {A : Option Addr} {c : Nat} {xs : List Nat} {k : Nat} (h : RU w B A c xs) (hk : k < xs.length) : ∃ ad x, A = some ad ∧ ad.block < B ∧ xs[k]? = some x ∧ x < 18446744073709551616 ∧ w.cell? (ad.add k) = some (.int .u64 (x : Int)) := by
  obtain ⟨ad, e, hb, hc⟩ := h.2.2.2 (by omega)
  have hg := List.getElem?_eq_getElem hk
  exact ⟨ad, xs[k], e, hb, hg, h.2.2.1 _ (List.getElem_mem hk), hc k _ hg⟩
theorem ru_of_row {w : World} {a : Option Addr} {len cap : Nat} {zs : List Int}
    (h : (a = none ∧ len = 0 ∧ cap = 0 ∧ zs = []) ∨ ∃ x, a = some x ∧ len ≤ cap ∧ cap ≤ maxLen ∧ zs.length = cap ∧ (∀ i, i < zs.length → w.cell? (x.add i) = some (.int .u64 (zs.getD i 0))) ∧ ∀ n ∈ zs, (Lit.int .u64 n).wf = true) :
    ∃ xs : List Nat, len = xs.length ∧ RU w w.heap.size a cap xs := by
  rcases h with ⟨rfl, rfl, rfl, rfl⟩ | ⟨x, rfl, hl, hm, hz, hc, hw⟩
  · exact ⟨[], rfl, by simp, by unfold maxLen; omega, by simp, by simp⟩
  · refine ⟨(zs.take len).map Int.toNat, by rw [List.length_map, List.length_take]; omega, by rw [List.length_map, List.length_take]; omega, hm, ?_, ?_⟩
    · intro y hy
      obtain ⟨z, hz', rfl⟩ := List.mem_map.1 hy
      have := wf_u64 (hw z (List.mem_of_mem_take hz'))
      omega
    · intro hn
      rw [List.length_map, List.length_take] at hn
      refine ⟨x, rfl, ?_, ?_⟩
      · have := block_lt_of_cell (hc 0 (by omega))
        rwa [add_block] at this
      · intro j y hj
        rw [List.getElem?_map, Option.map_eq_some_iff] at hj
        obtain ⟨z, hz', rfl⟩ := hj
        rw [List.getElem?_take] at hz'
        split at hz'
        · have hj2 := (List.getElem?_eq_some_iff.1 hz').1
          rw [hc j hj2]
          have hzm := hw z (List.mem_of_getElem? hz')
          have := wf_u64 hzm
          have e : zs.getD j 0 = z := by rw [List.getD_eq_getElem?_getD, hz']; rfl
          rw [e]
          congr 2
          omega
        · cases hz'

/-- Which seats the first j numbers name. -/
def mark (us : List Nat) (j k : Nat) : Bool := decide (k + 1 ∈ us.take j)
theorem mark_in {us : List Nat} {j x : Nat} (h : us[j]? = some x) (hx : 1 ≤ x) : (fun k => if k = x - 1 then true else mark us j k) = mark us (j + 1) := by
  funext k
  unfold mark
  rw [List.take_add_one, h]
  by_cases hk : k = x - 1
  · rw [if_pos hk]
    symm
    refine decide_eq_true ?_
    have : k + 1 = x := by omega
    simp [this]
  · rw [if_neg hk]
    have : ¬ k + 1 = x := by omega
    simp [this]
theorem mark_out {us : List Nat} {j x N : Nat} (h : us[j]? = some x) (hx : x = 0 ∨ N < x) (k : Nat) (hk : k < N) : mark us (j + 1) k = mark us j k := by
  unfold mark
  rw [List.take_add_one, h]
  have : ¬ k + 1 = x := by omega
  simp [this]
theorem Bs.congr {w : World} {g N : Nat} {M M' : Nat → Bool} (h : Bs w g N M) (e : ∀ k, k < N → M' k = M k) : Bs w g N M' := by
  obtain ⟨cs, hh, hs, hc⟩ := h
  exact ⟨cs, hh, hs, fun k hk => by rw [e k hk]; exact hc k hk⟩

def MarkP (w : World) (N : Nat) (us : List Nat) (e : Ending) (w' : World) : Prop :=
  e = .returned (.slice (some ⟨w.heap.size, 0, none⟩) N N) ∧ Bs w' w.heap.size N (mark us us.length) ∧ Below w.heap.size w w'

set_option maxHeartbeats 1000000 in
theorem marks_any (N : Nat) (A : Option Addr) (c : Nat) (us : List Nat) (w : World) (B : Nat) (h : RU w B A c us) (hB : B ≤ w.heap.size) (hN : N ≤ 100) (hl : us.length ≤ 100) :
    Calls Try.prog 17 #[.int .i64 (N : Int), .slice A us.length c] w (MarkP w N us) := by
  have mk := fun w => mk28 w N hN
  have HW := Lib.hid (bs_new w N)
  have HWB : Hid (Below w.heap.size w (w.alloc (.cells (madeCells #[.bool false] N) 4))) := (Below.refl _ _).alloc (Nat.le_refl _) _
  have HR := Lib.hid h
  clear h
  go_enter Try.func17, Try.ntmps17
  go_wp2_with fail
  generalize w.alloc (.cells (madeCells #[.bool false] N) 4) = w1 at *
  go_loopw [6] (fun i wr => ∃ j : Nat, i = .int .i64 (j : Int) ∧ j ≤ us.length ∧ Hid (Bs wr w.heap.size N (mark us j)) ∧ Hid (Below w.heap.size w wr)) (fun i _ => us.length - (intOf i).toNat)
  case atStart => exact ⟨0, rfl, by omega, by
    have : mark us 0 = fun _ => false := by
      funext k
      simp [mark]
    rw [this]; exact HW, HWB⟩
  case round =>
    obtain ⟨j, rfl, hj, BS, BB⟩ := hrel
    by_cases hlt : j < us.length
    · have hji : (j : Int) < (us.length : Int) := by omega
      obtain ⟨ad, x, rfl, _, hx, hxb, hc⟩ := (HR.out.below (BB.out.mono hB)).at_ hlt
      by_cases h1 : 1 ≤ x
      · by_cases h2 : x ≤ N
        · have p1 : (1 : Int) ≤ (x : Int) := by omega
          have p2 : (x : Int) ≤ (N : Int) := by omega
          have hK : x - 1 < N := by omega
          have p3 : IntKind.u64.wrap ((x : Int) - 1) = ((x - 1 : Nat) : Int) := by rw [IntKind.wrap_u64]; omega
          have hfz := BS.out.soft (x - 1)
          have hcell := BS.out.cell hK
          have hs1 := Lib.hid (BS.out.set (x - 1) hK)
          rw [mark_in hx h1] at hs1
          have hs2 := Lib.hid (BB.out.setCell (p := ⟨w.heap.size, x - 1, none⟩) (Nat.le_refl _) (.bool true))
          generalize x - 1 = K at *
          clear hx
          go_wp2_with fail
          go_roundw
          case rel => exact ⟨j + 1, by go_num, by omega, hs1, hs2⟩
          case measure => simp [intOf]; omega
        · have p1 : (1 : Int) ≤ (x : Int) := by omega
          have p2 : ¬ (x : Int) ≤ (N : Int) := by omega
          have hs1 := Lib.hid (BS.out.congr (mark_out hx (.inr (by omega))))
          clear hx
          go_wp2_with fail
          go_roundw
          case rel => exact ⟨j + 1, by go_num, by omega, hs1, BB⟩
          case measure => simp [intOf]; omega
      · have p1 : ¬ (1 : Int) ≤ (x : Int) := by omega
        have hs1 := Lib.hid (BS.out.congr (mark_out hx (.inl (by omega))))
        clear hx
        go_wp2_with fail
        go_roundw
        case rel => exact ⟨j + 1, by go_num, by omega, hs1, BB⟩
        case measure => simp [intOf]; omega
    · have hji : ¬ (j : Int) < (us.length : Int) := by omega
      have hj2 : j = us.length := by omega
      have HE : Hid (Bs wr w.heap.size N (mark us us.length)) := by rw [← hj2]; exact BS
      clear hj2 BS
      go_wp2_with fail
      go_ret
      exact ⟨rfl, HE.out, BB.out⟩

/-- How many of the first k are true. -/
def cb (M : Nat → Bool) : Nat → Nat
  | 0 => 0
  | k + 1 => cb M k + if M k = true then 1 else 0
theorem cb_le (M : Nat → Bool) (k : Nat) : cb M k ≤ k := by
  induction k with
  | zero => exact Nat.le_refl _
  | succ k ih => unfold cb; split <;> omega

set_option maxHeartbeats 1000000 in
theorem count_bools (g N : Nat) (M : Nat → Bool) (w : World) (h : Bs w g N M) (hN : N ≤ 100) :
    Calls Try.prog 18 #[.slice (some ⟨g, 0, none⟩) N N] w fun e w' => e = .returned (.int .i64 (cb M N : Nat)) ∧ w = w' := by
  have HB := Lib.hid h
  clear h
  go_enter Try.func18, Try.ntmps18
  go_wp2_with fail
  go_loopw [3, 4] (fun a i wr => ∃ j : Nat, i = .int .i64 (j : Int) ∧ a = .int .i64 ((cb M j : Nat) : Int) ∧ j ≤ N ∧ w = wr) (fun _ i _ => N - (intOf i).toNat)
  case atStart => exact ⟨0, rfl, rfl, by omega, rfl⟩
  case round =>
    obtain ⟨j, rfl, rfl, hj, rfl⟩ := hrel
    have hcl := cb_le M j
    by_cases hlt : j < N
    · have hji : (j : Int) < (N : Int) := by omega
      have hc := HB.out.cell hlt
      cases hM : M j with
      | true =>
        rw [hM] at hc
        have hs : Hid (((cb M j : Nat) : Int) + 1 = ((cb M (j + 1) : Nat) : Int)) := by show _ = _; simp [cb, hM]
        clear hM
        generalize cb M j = q at *
        go_wp2_with fail
        go_roundw
        case rel => exact ⟨j + 1, by go_num, by rw [hs.out], by omega, trivial⟩
        case measure => simp [intOf]; omega
      | false =>
        rw [hM] at hc
        have hs : Hid (((cb M j : Nat) : Int) = ((cb M (j + 1) : Nat) : Int)) := by show _ = _; simp [cb, hM]
        clear hM
        generalize cb M j = q at *
        go_wp2_with fail
        go_roundw
        case rel => exact ⟨j + 1, by go_num, by rw [hs.out], by omega, trivial⟩
        case measure => simp [intOf]; omega
    · have hji : ¬ (j : Int) < (N : Int) := by omega
      have hj2 : j = N := by omega
      subst hj2
      go_wp2_with fail
      go_ret
      exact ⟨rfl, rfl⟩
end Go.Proofs.Ytleclkggdhofmaa
