/- Contracts of quorum's votes; no condition. -/
import Derived.Test.YtleclkggdhofmaaCodeA
import Derived.Laws.BytesArg
import Derived.BigRegion
import Derived.Deep.RegionHeld3
import Derived.Deep.MidRow
import Derived.Deep.RegionLaw
import Derived.Deep.DeepCutAuto
namespace Go.Proofs.Ytleclkggdhofmaa
open Go.RowKit
set_option linter.unusedVariables false
set_option linter.unusedSimpArgs false

/-- The cells of votes that have none. -/
def vc (f : Int) : Array Value := #[.int .i64 f, .bool false, .bool false, .bool false, .bool false, .bool false, .bool false, .bool false, .bool false, .bool false, .bool false, .bool false, .bool false, .bool false, .int .u64 0, .slice none 0 0, .slice none 0 0, .int .u64 0, .slice none 0 0, .slice none 0 0, .int .u64 0, .slice none 0 0, .slice none 0 0, .int .u64 0, .slice none 0 0, .slice none 0 0, .int .u64 0, .slice none 0 0, .slice none 0 0, .int .u64 0, .slice none 0 0, .slice none 0 0, .int .u64 0, .slice none 0 0, .slice none 0 0, .int .u64 0, .slice none 0 0, .slice none 0 0, .int .u64 0, .slice none 0 0, .slice none 0 0, .int .u64 0, .slice none 0 0, .slice none 0 0, .int .u64 0, .slice none 0 0, .slice none 0 0, .int .u64 0, .slice none 0 0, .slice none 0 0, .int .u64 0, .slice none 0 0, .slice none 0 0, .string ByteArray.empty, .string ByteArray.empty, .string ByteArray.empty, .string ByteArray.empty, .string ByteArray.empty, .string ByteArray.empty, .string ByteArray.empty, .string ByteArray.empty, .string ByteArray.empty, .string ByteArray.empty, .string ByteArray.empty, .string ByteArray.empty, .string ByteArray.empty]
theorem vc_size (f : Int) : (vc f).size = 66 := rfl
theorem zero58 (w : World) : (zeroValue 58).run Try.prog w = .ok (.agg (vc 0)) w := by kernel_rfl
theorem vc_ne : ¬ (vc 0 = #[]) := by
  intro h
  have := congrArg Array.size h
  simp [vc] at this
theorem vc_set (f : Int) : (vc 0).setIfInBounds 0 (.int .i64 f) = vc f := rfl

theorem new_yes (f : Int) (w : World) (h1 : 1 ≤ f) (h2 : f ≤ 4) : Calls Try.prog 19 #[.int .i64 f] w fun e w' => e = .returned (.tuple #[.pointer (some ⟨w.heap.size, 0, none⟩), .int .i64 0]) ∧ w.alloc (.cells (vc f) 58) = w' := by
  have hc : can f = true := decide_eq_true ⟨h1, h2⟩
  have HC := Lib.hid hc
  clear hc
  have hb := fun w => zero58 w
  have hb2 := vc_ne
  go_enter Try.func19, Try.ntmps19
  go_wp2_with fail
  refine (can_any f _).mono ?_
  rw [HC.out]
  rintro e w1 ⟨rfl, rfl⟩
  go_wp2_with fail
  go_ret2
  exact ⟨rfl, by rw [← vc_set]⟩

/-- A word's bytes as a string. -/
def strOf (xs : List Nat) : ByteArray := strOfNums (xs.map fun x : Nat => (x : Int))
theorem conv_str {w : World} {B : Nat} {A : Option Addr} {c : Nat} {xs : List Nat} (h : Rd w B A c xs) : (convert 37 9 (.slice A xs.length c)).run Try.prog w = .ok (.string (strOf xs)) w := by
  rcases A with _ | ad
  · have hx : xs = [] := by
      rcases Nat.eq_zero_or_pos xs.length with h0 | h0
      · exact List.eq_nil_of_length_eq_zero h0
      · obtain ⟨_, h, _⟩ := h.2.2.2 h0
        cases h
    subst hx
    exact run_convert_bytes_nil w 37 5 Try.underlying37 Try.underlying5 _ _ 9 Try.underlying9
  · have hl : (loadCells ad xs.length).run Try.prog w = .ok ((xs.map fun x : Nat => (x : Int)).map (Value.int .u8)).toArray w := by
      have := run_loadCells_list (P := Try.prog) w ad ((xs.map fun x : Nat => (x : Int)).map (Value.int .u8)) (fun j v hj => by
        rw [List.map_map, List.getElem?_map, Option.map_eq_some_iff] at hj
        obtain ⟨x, hx, rfl⟩ := hj
        obtain ⟨ad', h', _, hc⟩ := h.2.2.2 (by have := (List.getElem?_eq_some_iff.1 hx).1; omega)
        injection h' with h'
        subst h'
        exact hc j x hx)
      simpa using this
    rw [run_convert_bytes_string w 37 9 5 _ _ c Try.underlying37 Try.underlying5 Try.underlying9, run_bytesToString w _ _ c _ hl, foldl_push_bytes]
    simp [strOf, strOfNums, ByteArray.empty, ByteArray.emptyWithCapacity]
    rfl

/-- Votes in block g: of f, and of each seat the word that it has voted for. -/
def Vot (w : World) (g : Nat) (f : Int) (V : Nat → Option (List Nat)) : Prop :=
  ∃ cs, w.heap[g]? = some (.cells cs 58 (0, 0)) ∧ cs.size = 66 ∧ cs[0]? = some (.int .i64 f) ∧ (∀ i, i < 13 → cs[1 + i]? = some (.bool (V i).isSome)) ∧
    (∀ j, 14 ≤ j → j < 53 → ∃ v, cs[j]? = some v ∧ v.oneCell' = true) ∧ ∀ i, i < 13 → ∃ s, cs[53 + i]? = some (.string s) ∧ ∀ u, V i = some u → s = strOf u

theorem Vot.drew {w : World} {g : Nat} {f : Int} {V : Nat → Option (List Nat)} (h : Vot w g f V) : Vot w.drew g f V := h
theorem clone_nil (w : World) : Calls Try.prog 27 #[.slice none 0 0] w fun e w' => e = .returned (.slice none 0 0) ∧ w = w' := by
  have q := fun (w : World) => Lib.run_eql_slice_nil (P := Try.prog) w 37 5 none 0 0 0 0 Try.underlying37
  go_enter Try.func27, Try.ntmps27
  go_wp2
  go_ret
  exact ⟨rfl, rfl⟩

theorem below_drewN {B : Nat} {a w : World} (h : Below B a w) (n : Nat) : Below B a (w.drewN n) := ⟨h.os, h.tape, h.output, h.size, h.block⟩
theorem setCell_self {w : World} {b o : Nat} {v : Value} (h : w.cell? ⟨b, o, none⟩ = some v) : w.setCell ⟨b, o, none⟩ v = w := by
  have hb : ∃ c e fr, w.heap[b]? = some (.cells c e fr) ∧ c[o]? = some v := by
    unfold World.cell? at h
    split at h
    · rename_i c e fr hb
      exact ⟨c, e, fr, hb, by simpa using h⟩
    · cases h
  obtain ⟨c, e, fr, hb, hc⟩ := hb
  have hset : c.setIfInBounds o v = c := by
    apply Array.ext_getElem?
    intro j
    rw [Array.getElem?_setIfInBounds]
    by_cases hj : o = j
    · subst hj
      obtain ⟨hl, hv⟩ := Array.getElem?_eq_some_iff.1 hc
      rw [if_pos rfl, if_pos hl, hc]
    · rw [if_neg hj]
  have hheap : (w.setCell ⟨b, o, none⟩ v).heap = w.heap := by
    apply Array.ext_getElem?
    intro j
    simp only [World.setCell, Array.getElem?_modify]
    by_cases hj : b = j
    · subst hj
      rw [if_pos rfl, hb]
      simp [hset]
    · rw [if_neg hj]
  cases w
  unfold World.setCell at hheap ⊢
  simp only at hheap
  simp only [hheap]

theorem rd_far {w : World} {B : Nat} {A : Option Addr} {c : Nat} {xs : List Nat} {g o : Nat} {u : Value} (hap : 0 < xs.length → ∀ ad, A = some ad → ad.block ≠ g) (h : Rd w B A c xs) : Rd (w.setCell ⟨g, o, none⟩ u) B A c xs :=
  ⟨h.1, h.2.1, h.2.2.1, fun hn => by
    obtain ⟨ad, e, hb, hc⟩ := h.2.2.2 hn
    refine ⟨ad, e, hb, fun j x hx => ?_⟩
    rw [World.cell?_setCell_far _ _ _ _ (by rw [add_block]; exact fun h => hap hn ad e h.symm)]
    exact hc j x hx⟩
def five (cs : Array Value) (i : Nat) (a b d t : Value) : Array Value := ((((cs.setIfInBounds (1 + i) (.bool true)).setIfInBounds (14 + i * 3) a).setIfInBounds (14 + i * 3 + 1) b).setIfInBounds (14 + i * 3 + 2) d).setIfInBounds (53 + i) t
theorem five_size (cs : Array Value) (i : Nat) (a b d t : Value) : (five cs i a b d t).size = cs.size := by
  unfold five
  rw [Array.size_setIfInBounds, Array.size_setIfInBounds, Array.size_setIfInBounds, Array.size_setIfInBounds, Array.size_setIfInBounds]
theorem get_set {cs : Array Value} {o j : Nat} {v : Value} (ho : o < cs.size) : (cs.setIfInBounds o v)[j]? = if o = j then some v else cs[j]? := by
  rw [Array.getElem?_setIfInBounds, if_pos ho]
theorem five_get (cs : Array Value) (i : Nat) (a b d t : Value) (hsz : cs.size = 66) (hi : i < 13) (j : Nat) :
    (five cs i a b d t)[j]? = if 53 + i = j then some t else if 14 + i * 3 + 2 = j then some d else if 14 + i * 3 + 1 = j then some b else if 14 + i * 3 = j then some a else if 1 + i = j then some (.bool true) else cs[j]? := by
  have b1 : 1 + i < cs.size := by omega
  have b2 : 14 + i * 3 < (cs.setIfInBounds (1 + i) (.bool true)).size := by rw [Array.size_setIfInBounds]; omega
  have b3 : 14 + i * 3 + 1 < ((cs.setIfInBounds (1 + i) (.bool true)).setIfInBounds (14 + i * 3) a).size := by rw [Array.size_setIfInBounds, Array.size_setIfInBounds]; omega
  have b4 : 14 + i * 3 + 2 < (((cs.setIfInBounds (1 + i) (.bool true)).setIfInBounds (14 + i * 3) a).setIfInBounds (14 + i * 3 + 1) b).size := by rw [Array.size_setIfInBounds, Array.size_setIfInBounds, Array.size_setIfInBounds]; omega
  have b5 : 53 + i < ((((cs.setIfInBounds (1 + i) (.bool true)).setIfInBounds (14 + i * 3) a).setIfInBounds (14 + i * 3 + 1) b).setIfInBounds (14 + i * 3 + 2) d).size := by rw [Array.size_setIfInBounds, Array.size_setIfInBounds, Array.size_setIfInBounds, Array.size_setIfInBounds]; omega
  unfold five
  rw [get_set b5, get_set b4, get_set b3, get_set b2, get_set b1]
theorem five_heap {w : World} {g : Nat} {cs : Array Value} (i : Nat) (a b d t : Value) (hh : w.heap[g]? = some (.cells cs 58 (0, 0))) :
    (((((w.setCell ⟨g, 1 + i, none⟩ (.bool true)).setCell ⟨g, 14 + i * 3, none⟩ a).setCell ⟨g, 14 + i * 3 + 1, none⟩ b).setCell ⟨g, 14 + i * 3 + 2, none⟩ d).setCell ⟨g, 53 + i, none⟩ t).heap[g]? = some (.cells (five cs i a b d t) 58 (0, 0)) :=
  heap_setCell_same _ g (53 + i) _ 58 t (heap_setCell_same _ g (14 + i * 3 + 2) _ 58 d (heap_setCell_same _ g (14 + i * 3 + 1) _ 58 b (heap_setCell_same _ g (14 + i * 3) _ 58 a (heap_setCell_same w g (1 + i) _ 58 (.bool true) hh))))
theorem vot_store {w : World} {g : Nat} {f : Int} {V : Nat → Option (List Nat)} {cs : Array Value} {i : Nat} {xs : List Nat} {a b d : Value} (hh : w.heap[g]? = some (.cells cs 58 (0, 0))) (hsz : cs.size = 66) (hi : i < 13) (h0 : cs[0]? = some (.int .i64 f))
    (h1 : ∀ i, i < 13 → cs[1 + i]? = some (.bool (V i).isSome)) (h2 : ∀ j, 14 ≤ j → j < 53 → ∃ v, cs[j]? = some v ∧ v.oneCell' = true) (h3 : ∀ i, i < 13 → ∃ s, cs[53 + i]? = some (.string s) ∧ ∀ u, V i = some u → s = strOf u)
    (ha : a.oneCell' = true) (hb : b.oneCell' = true) (hd : d.oneCell' = true) :
    Vot (((((w.setCell ⟨g, 1 + i, none⟩ (.bool true)).setCell ⟨g, 14 + i * 3, none⟩ a).setCell ⟨g, 14 + i * 3 + 1, none⟩ b).setCell ⟨g, 14 + i * 3 + 2, none⟩ d).setCell ⟨g, 53 + i, none⟩ (.string (strOf xs))) g f (fun j => if j = i then some xs else V j) := by
  refine ⟨five cs i a b d (.string (strOf xs)), five_heap i a b d _ hh, (five_size ..).trans hsz, ?_, ?_, ?_, ?_⟩
  · have n1 : ¬ 53 + i = 0 := by omega
    have n2 : ¬ 14 + i * 3 + 2 = 0 := by omega
    have n3 : ¬ 14 + i * 3 + 1 = 0 := by omega
    have n4 : ¬ 14 + i * 3 = 0 := by omega
    have n5 : ¬ 1 + i = 0 := by omega
    rw [five_get _ _ _ _ _ _ hsz hi, if_neg n1, if_neg n2, if_neg n3, if_neg n4, if_neg n5]
    exact h0
  · intro j hj
    have n1 : ¬ 53 + i = 1 + j := by omega
    have n2 : ¬ 14 + i * 3 + 2 = 1 + j := by omega
    have n3 : ¬ 14 + i * 3 + 1 = 1 + j := by omega
    have n4 : ¬ 14 + i * 3 = 1 + j := by omega
    rw [five_get _ _ _ _ _ _ hsz hi, if_neg n1, if_neg n2, if_neg n3, if_neg n4]
    by_cases hij : j = i
    · subst hij
      dsimp only
      rw [if_pos rfl, if_pos rfl]; rfl
    · have n5 : ¬ 1 + i = 1 + j := by omega
      dsimp only
      rw [if_neg n5, if_neg hij]; exact h1 j hj
  · intro j hj1 hj2
    have n1 : ¬ 53 + i = j := by omega
    have n5 : ¬ 1 + i = j := by omega
    rw [five_get _ _ _ _ _ _ hsz hi, if_neg n1]
    by_cases c1 : 14 + i * 3 + 2 = j
    · rw [if_pos c1]; exact ⟨d, rfl, hd⟩
    · rw [if_neg c1]
      by_cases c2 : 14 + i * 3 + 1 = j
      · rw [if_pos c2]; exact ⟨b, rfl, hb⟩
      · rw [if_neg c2]
        by_cases c3 : 14 + i * 3 = j
        · rw [if_pos c3]; exact ⟨a, rfl, ha⟩
        · rw [if_neg c3, if_neg n5]; exact h2 j hj1 hj2
  · intro j hj
    rw [five_get _ _ _ _ _ _ hsz hi]
    by_cases hij : j = i
    · subst hij
      rw [if_pos rfl]
      refine ⟨_, rfl, fun u hu => ?_⟩
      dsimp only at hu
      rw [if_pos rfl] at hu
      injection hu with hu
      rw [hu]
    · have n1 : ¬ 53 + i = 53 + j := by omega
      have n2 : ¬ 14 + i * 3 + 2 = 53 + j := by omega
      have n3 : ¬ 14 + i * 3 + 1 = 53 + j := by omega
      have n4 : ¬ 14 + i * 3 = 53 + j := by omega
      have n5 : ¬ 1 + i = 53 + j := by omega
      rw [if_neg n1, if_neg n2, if_neg n3, if_neg n4, if_neg n5]
      obtain ⟨s, h, hs⟩ := h3 j hj
      refine ⟨s, h, fun u hu => hs u ?_⟩
      dsimp only at hu
      rw [if_neg hij] at hu
      exact hu
theorem grown_one (w : World) (g o : Nat) (u : Value) : w.grownBy (w.setCell ⟨g, o, none⟩ u) (some g) :=
  ⟨rfl, rfl, rfl, by simp [World.setCell], fun j _ hne => Below.heap_setCell w _ u j (fun e => hne (by rw [e]))⟩
theorem grown_sets {w : World} (g o1 o2 o3 o4 o5 : Nat) (u1 u2 u3 u4 u5 : Value) : w.grownBy (((((w.setCell ⟨g, o1, none⟩ u1).setCell ⟨g, o2, none⟩ u2).setCell ⟨g, o3, none⟩ u3).setCell ⟨g, o4, none⟩ u4).setCell ⟨g, o5, none⟩ u5) (some g) :=
  World.grownBy.trans (World.grownBy.trans (World.grownBy.trans (World.grownBy.trans (grown_one _ g o1 u1) (grown_one _ g o2 u2)) (grown_one _ g o3 u3)) (grown_one _ g o4 u4)) (grown_one _ g o5 u5)
theorem grown_drew {w w' : World} {r : Option Nat} (h : w.grownBy w' r) : w.grownBy w'.drew r := ⟨h.os, h.tape, h.output, h.size, h.block⟩
/-- The world inside Add: the boxed text in block b, the votes in block g. -/
def AddW (w : World) (b g : Nat) (cs : Array Value) (x : Int) (wc : World) : Prop :=
  wc.heap[b]? = some (.cells #[.int .u64 x, .slice none 0 0, .slice none 0 0] 43 (0, 0)) ∧ wc.heap[g]? = some (.cells cs 58 (0, 0)) ∧ Below w.heap.size w wc

set_option maxHeartbeats 2000000 in
theorem add_yes (g : Nat) (f : Int) (V : Nat → Option (List Nat)) (i : Nat) (A : Option Addr) (c : Nat) (xs : List Nat) (w : World) (B : Nat) (h : Vot w g f V) (hr : Rd w B A c xs) (hB : B ≤ w.heap.size) (hap : 0 < xs.length → ∀ ad, A = some ad → ad.block ≠ g) (hf1 : 1 ≤ f) (hf2 : f ≤ 4) (hi : (i : Int) + 1 ≤ tm 3 f) (hV : V i = none) :
    Calls Try.prog 20 #[.pointer (some ⟨g, 0, none⟩), .agg #[.int .u64 ((i : Int) + 1), .slice none 0 0, .slice none 0 0], .slice A xs.length c] w fun e w' => e = .returned (.int .i64 0) ∧ Vot w' g f (fun j => if j = i then some xs else V j) ∧ w.grownBy w' (some g) := by
  obtain ⟨cs, hh, hsz, h0, h1, h2, h3⟩ := h
  have hi13 : i < 13 := by unfold tm at hi; rw [if_pos ⟨hf1, hf2⟩] at hi; omega
  have hib : (i : Int) < 13 := by omega
  have hN : tm 3 f ≤ 13 := by unfold tm; rw [if_pos ⟨hf1, hf2⟩]; omega
  have c0 : w.cell? ⟨g, 0, none⟩ = some (.int .i64 f) := by rw [cell_of_row w g 0 _ _ _ hh]; exact h0
  have hcs1 : cs[1 + i]? = some (.bool false) := by rw [h1 i hi13, hV]; rfl
  have c1 : w.cell? ⟨g, 1 + i, none⟩ = some (.bool false) := by rw [cell_of_row w g _ _ _ _ hh]; exact hcs1
  have hglt : g < w.heap.size := by
    rcases Nat.lt_or_ge g w.heap.size with hlt | hge
    · exact hlt
    · rw [Array.getElem?_eq_none hge] at hh; cases hh
  have t0 : (((i : Int) + 1) == 0) = false := beq_eq_false_iff_ne.2 (by omega)
  have hgne : ¬ g = w.heap.size := by omega
  have hn := Lib.hid (fun w => n_any f w)
  have HH := Lib.hid hh
  have HC1 := Lib.hid hcs1
  have HR := Lib.hid hr
  have H0 := Lib.hid h0
  have H1 := Lib.hid h1
  have H2 := Lib.hid h2
  have H3 := Lib.hid h3
  have HAP := Lib.hid hap
  generalize tm 3 f = N at *
  clear hh h0 h1 h2 h3 hV hcs1 hr hap
  go_enter Try.func20, Try.ntmps20
  go_wp2_with fail
  go_quiet ((go_at_call 8; exact Calls.quiet_of_same ((hn.out _).mono fun e w' h => ⟨h.1, h.2.symm⟩)))
  go_wp2_with fail
  go_cut [25] (fun v wc => v = .bool false ∧ Hid (AddW w w.heap.size g cs ((i : Int) + 1) wc))
  case first =>
    go_quiet (fail)
    go_wp2_with fail
    go_meet
    refine ⟨rfl, ?_⟩
    refine ⟨heap_alloc_new _ _, (Below.heap_alloc _ _ _ hglt).trans HH.out, below_drewN (below_drewN ((Below.refl _ _).alloc (Nat.le_refl _) _) _) _⟩
  case rest =>
    obtain ⟨rfl, HW⟩ := hcut
    clear c0 c1
    generalize hb : w.heap.size = b at *
    have HBb := Lib.hid hb
    clear hb
    have l0 : wc.cell? ⟨b, 0, none⟩ = some (.int .u64 ((i : Int) + 1)) := by rw [cell_of_row wc b 0 _ _ _ HW.out.1]; rfl
    have l1 : wc.cell? ⟨b, 1, none⟩ = some (.slice none 0 0) := by rw [cell_of_row wc b 1 _ _ _ HW.out.1]; rfl
    have l2 : wc.cell? ⟨b, 2, none⟩ = some (.slice none 0 0) := by rw [cell_of_row wc b 2 _ _ _ HW.out.1]; rfl
    have f1 := frozen_of_row wc b 1 _ _ HW.out.1
    have f2 := frozen_of_row wc b 2 _ _ HW.out.1
    have s1 : ∀ n, (wc.drewN n).setCell ⟨b, 1, none⟩ (.slice none 0 0) = wc.drewN n := fun n => setCell_self l1
    have s2 : ∀ n, (wc.drewN n).setCell ⟨b, 2, none⟩ (.slice none 0 0) = wc.drewN n := fun n => setCell_self l2
    have s3 : wc.drew.setCell ⟨b, 1, none⟩ (.slice none 0 0) = wc.drew := setCell_self (w := wc.drew) l1
    have s4 : wc.drew.setCell ⟨b, 2, none⟩ (.slice none 0 0) = wc.drew := setCell_self (w := wc.drew) l2
    go_wp2_with fail
    go_cut [25] (fun v wd => Hid (AddW w b g cs ((i : Int) + 1) wd))
    case first =>
      go_region_held3 (fun w' => w'.cell? ⟨b, 1, none⟩ = some (.slice none 0 0) ∧ w'.cell? ⟨b, 2, none⟩ = some (.slice none 0 0) ∧ w'.frozen? ⟨b, 1, none⟩ = false ∧ w'.frozen? ⟨b, 2, none⟩ = false) (go_keep) (first | (go_at_call 27; refine (clone_nil _).mono ?_; rintro e w7 ⟨rfl, rfl⟩))
      all_goals
        go_wp2_with fail
        go_meet
        exact ⟨HW.out.1, HW.out.2.1, HW.out.2.2.drew⟩
    case rest =>
      clear l0 l1 l2 f1 f2 s1 s2 s3 s4 HW
      have HX := hcut
      clear hcut
      have l0 : wc.cell? ⟨b, 0, none⟩ = some (.int .u64 ((i : Int) + 1)) := by rw [cell_of_row wc b 0 _ _ _ HX.out.1]; rfl
      have l1 : wc.cell? ⟨b, 1, none⟩ = some (.slice none 0 0) := by rw [cell_of_row wc b 1 _ _ _ HX.out.1]; rfl
      have l2 : wc.cell? ⟨b, 2, none⟩ = some (.slice none 0 0) := by rw [cell_of_row wc b 2 _ _ _ HX.out.1]; rfl
      have k1 : wc.cell? ⟨g, 1 + i, none⟩ = some (.bool false) := by rw [cell_of_row wc g _ _ _ _ HX.out.2.1]; exact HC1.out
      obtain ⟨t0, hk2, _⟩ := H2.out (14 + i * 3) (by omega) (by omega)
      obtain ⟨t1, hk3, _⟩ := H2.out (14 + i * 3 + 1) (by omega) (by omega)
      obtain ⟨t2, hk4, _⟩ := H2.out (14 + i * 3 + 2) (by omega) (by omega)
      obtain ⟨t3, hk5, _⟩ := H3.out i hi13
      have k2 : wc.cell? ⟨g, 14 + i * 3, none⟩ = some t0 := by rw [cell_of_row wc g _ _ _ _ HX.out.2.1]; exact hk2
      have k3 : wc.cell? ⟨g, 14 + i * 3 + 1, none⟩ = some t1 := by rw [cell_of_row wc g _ _ _ _ HX.out.2.1]; exact hk3
      have k4 : wc.cell? ⟨g, 14 + i * 3 + 2, none⟩ = some t2 := by rw [cell_of_row wc g _ _ _ _ HX.out.2.1]; exact hk4
      have k5 : wc.cell? ⟨g, 53 + i, none⟩ = some (.string t3) := by rw [cell_of_row wc g _ _ _ _ HX.out.2.1]; exact hk5
      have z1 := frozen_of_row wc g (1 + i) _ _ HX.out.2.1
      have z2 := frozen_of_row wc g (14 + i * 3) _ _ HX.out.2.1
      have z3 := frozen_of_row wc g (14 + i * 3 + 1) _ _ HX.out.2.1
      have z4 := frozen_of_row wc g (14 + i * 3 + 2) _ _ HX.out.2.1
      have z5 := frozen_of_row wc g (53 + i) _ _ HX.out.2.1
      have RX : Rd wc B A c xs := HR.out.below HX.out.2.2 (by have := HBb.out; omega)
      have v0 : ∀ n, (convert 37 9 (.slice A xs.length c)).run Try.prog (wc.drewN n) = .ok (.string (strOf xs)) (wc.drewN n) := fun n => conv_str (RX.drewN n)
      have v0' : (convert 37 9 (.slice A xs.length c)).run Try.prog wc.drew = .ok (.string (strOf xs)) wc.drew := conv_str RX.drew
      have v1 : ∀ o1 u1, (convert 37 9 (.slice A xs.length c)).run Try.prog (wc.setCell ⟨g, o1, none⟩ u1).drew = .ok (.string (strOf xs)) (wc.setCell ⟨g, o1, none⟩ u1).drew := fun o1 u1 => conv_str (Rd.drew (rd_far HAP.out RX))
      have v4 : ∀ o1 u1 o2 u2 o3 u3 o4 u4, (convert 37 9 (.slice A xs.length c)).run Try.prog ((((wc.setCell ⟨g, o1, none⟩ u1).setCell ⟨g, o2, none⟩ u2).setCell ⟨g, o3, none⟩ u3).setCell ⟨g, o4, none⟩ u4).drew = .ok (.string (strOf xs)) ((((wc.setCell ⟨g, o1, none⟩ u1).setCell ⟨g, o2, none⟩ u2).setCell ⟨g, o3, none⟩ u3).setCell ⟨g, o4, none⟩ u4).drew := fun o1 u1 o2 u2 o3 u3 o4 u4 => conv_str (Rd.drew (rd_far HAP.out (rd_far HAP.out (rd_far HAP.out (rd_far HAP.out RX)))))
      have v5 : ∀ o1 u1 o2 u2 o3 u3 o4 u4 o5 u5, (convert 37 9 (.slice A xs.length c)).run Try.prog (((((wc.setCell ⟨g, o1, none⟩ u1).setCell ⟨g, o2, none⟩ u2).setCell ⟨g, o3, none⟩ u3).setCell ⟨g, o4, none⟩ u4).setCell ⟨g, o5, none⟩ u5).drew = .ok (.string (strOf xs)) (((((wc.setCell ⟨g, o1, none⟩ u1).setCell ⟨g, o2, none⟩ u2).setCell ⟨g, o3, none⟩ u3).setCell ⟨g, o4, none⟩ u4).setCell ⟨g, o5, none⟩ u5).drew := fun o1 u1 o2 u2 o3 u3 o4 u4 o5 u5 => conv_str (Rd.drew (rd_far HAP.out (rd_far HAP.out (rd_far HAP.out (rd_far HAP.out (rd_far HAP.out RX))))))
      have hii : (0 : Int) ≤ (i : Int) := by omega
      have hw2 : IntKind.u64.wrap (i : Int) = (i : Int) := by rw [IntKind.wrap_u64]; omega
      have hw1 : IntKind.u64.wrap ((i : Int) + 1 - 1) = (i : Int) := by rw [IntKind.wrap_u64]; omega
      clear hk2 hk3 hk4 hk5 RX
      go_wp2_with fail
      go_cut [25] (fun v wd => Hid (Vot wd g f (fun j => if j = i then some xs else V j) ∧ w.grownBy wd (some g)))
      case first =>
        go_region_held3 (fun w' => w'.cell? ⟨b, 0, none⟩ = some (.int .u64 ((i : Int) + 1)) ∧ w'.cell? ⟨b, 1, none⟩ = some (.slice none 0 0) ∧ w'.cell? ⟨b, 2, none⟩ = some (.slice none 0 0) ∧ (convert 37 9 (.slice A xs.length c)).run Try.prog w' = .ok (.string (strOf xs)) w') (go_keep) (fail)
        all_goals
          go_wp2_with fail
          go_meet
          refine ⟨Vot.drew (vot_store HX.out.2.1 hsz hi13 H0.out H1.out H2.out H3.out rfl rfl rfl), ?_⟩
          have hg1 : w.grownBy wc (some g) := ⟨HX.out.2.2.os, HX.out.2.2.tape, HX.out.2.2.output, HX.out.2.2.size, fun k hk _ => HX.out.2.2.block k hk⟩
          exact grown_drew (World.grownBy.trans hg1 (grown_sets _ _ _ _ _ _ _ _ _ _ _))
      case rest =>
        go_wp2_with fail
        go_ret
        exact ⟨rfl, hcut.out.1, hcut.out.2⟩
end Go.Proofs.Ytleclkggdhofmaa
