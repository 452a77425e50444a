/- The walk of QuorumOnce; no condition. -/
import Derived.Test.YtleclkggdhofmaaCodeF
import Derived.Test.YtleclkggdhofmaaTurnsW
namespace Go.Proofs.Ytleclkggdhofmaa
open Go.RowKit
set_option linter.unusedVariables false
set_option linter.unusedSimpArgs false

theorem bchain {B : Nat} {a b c : World} (h : Below B a b) (k : Below b.heap.size b c) (hB : B ≤ b.heap.size) : Below B a c := h.trans (k.mono hB)
/-- A vote that came in: its four cells. -/
structure Row where
  x : Nat
  n1 : Nat
  c1 : Nat
  n2 : Nat
  c2 : Nat
  c3 : Nat
  A1 : Option Addr
  A2 : Option Addr
  A3 : Option Addr
  xs : List Nat
def Rows4 (w : World) (b o j : Nat) (r : Row) : Prop :=
  w.cell? ⟨b, o + j * 4, none⟩ = some (.int .u64 (r.x : Int)) ∧ w.cell? ⟨b, o + j * 4 + 1, none⟩ = some (.slice r.A1 r.n1 r.c1) ∧ w.cell? ⟨b, o + j * 4 + 2, none⟩ = some (.slice r.A2 r.n2 r.c2) ∧ w.cell? ⟨b, o + j * 4 + 3, none⟩ = some (.slice r.A3 r.xs.length r.c3)
def Ballots (w : World) (B : Nat) (A : Option Addr) (l : List Row) : Prop :=
  0 < l.length → ∃ b o, A = some ⟨b, o, none⟩ ∧ b < B ∧ ∀ (j : Nat) (r : Row), l[j]? = some r → Rows4 w b o j r ∧ r.x < 18446744073709551616 ∧ Rd w B r.A3 r.c3 r.xs
theorem Ballots.below {w w' : World} {B : Nat} {A : Option Addr} {l : List Row} (h : Ballots w B A l) (hb : Below B w w') : Ballots w' B A l := by
  intro hn
  obtain ⟨b, o, e, hl, hc⟩ := h hn
  refine ⟨b, o, e, hl, fun j r hj => ?_⟩
  obtain ⟨⟨h0, h1, h2, h3⟩, hx, hr⟩ := hc j r hj
  exact ⟨⟨(hb.cell (p := ⟨b, _, none⟩) hl).trans h0, (hb.cell (p := ⟨b, _, none⟩) hl).trans h1, (hb.cell (p := ⟨b, _, none⟩) hl).trans h2, (hb.cell (p := ⟨b, _, none⟩) hl).trans h3⟩, hx, hr.below hb (Nat.le_refl _)⟩
theorem Ballots.at_ {w : World} {B : Nat} {A : Option Addr} {l : List Row} {j : Nat} (h : Ballots w B A l) (hj : j < l.length) : ∃ b o r, A = some ⟨b, o, none⟩ ∧ b < B ∧ l[j]? = some r ∧
    w.cell? ⟨b, o + j * 4, none⟩ = some (.int .u64 (r.x : Int)) ∧ w.cell? ⟨b, o + j * 4 + 1, none⟩ = some (.slice r.A1 r.n1 r.c1) ∧ w.cell? ⟨b, o + j * 4 + 2, none⟩ = some (.slice r.A2 r.n2 r.c2) ∧ w.cell? ⟨b, o + j * 4 + 3, none⟩ = some (.slice r.A3 r.xs.length r.c3) ∧ r.x < 18446744073709551616 ∧ Rd w B r.A3 r.c3 r.xs := by
  obtain ⟨b, o, e, hb, hc⟩ := h (by omega)
  have hg := List.getElem?_eq_getElem hj
  obtain ⟨⟨h0, h1, h2, h3⟩, hx, hr⟩ := hc j _ hg
  exact ⟨b, o, l[j], e, hb, hg, h0, h1, h2, h3, hx, hr⟩

/-- Votes of f = n, whose words are bytes, a hundred at most, of seats below 3n + 1. -/
def VS (w : World) (g n : Nat) (V : Nat → Option (List Nat)) : Prop :=
  Vot w g (n : Int) V ∧ (∀ i u, V i = some u → (∀ x ∈ u, x < 256) ∧ u.length ≤ 100) ∧ ∀ i, 3 * n + 1 ≤ i → V i = none
theorem VS.below {w w' : World} {g n : Nat} {V : Nat → Option (List Nat)} {B : Nat} (h : VS w g n V) (hb : Below B w w') (hg : g < B) : VS w' g n V := ⟨h.1.below hb hg, h.2⟩
theorem VS.drewN {w : World} {g n : Nat} {V : Nat → Option (List Nat)} (h : VS w g n V) (k : Nat) : VS (w.drewN k) g n V := h
theorem grown_of_below {w w' : World} {g : Nat} (h : Below w.heap.size w w') : w.grownBy w' (some g) := ⟨h.os, h.tape, h.output, h.size, fun j hj _ => h.block j hj⟩

theorem grown_undrew {w w' : World} {r : Option Nat} (h : w.drew.grownBy w' r) : w.grownBy w' r := ⟨h.os, h.tape, h.output, h.size, h.block⟩
theorem grown_undrewN {w w' : World} {n : Nat} {r : Option Nat} (h : (w.drewN n).grownBy w' r) : w.grownBy w' r := ⟨h.os, h.tape, h.output, h.size, h.block⟩
def AddP (w : World) (g n : Nat) (e : Ending) (w' : World) : Prop := (∃ k, e = .returned (.int .i64 k)) ∧ w.grownBy w' (some g) ∧ ∃ V, VS w' g n V
theorem add_all (g n : Nat) (V : Nat → Option (List Nat)) (x : Nat) (A : Option Addr) (c : Nat) (xs : List Nat) (w : World) (B : Nat) (h : VS w g n V) (hr : Rd w B A c xs) (hB : B ≤ w.heap.size) (hBg : B ≤ g) (hn : 1 ≤ n ∧ n ≤ 4) (hx : x < 18446744073709551616) (hl : xs.length ≤ 100) :
    Calls Try.prog 20 #[.pointer (some ⟨g, 0, none⟩), .agg #[.int .u64 (x : Int), .slice none 0 0, .slice none 0 0], .slice A xs.length c] w (AddP w g n) := by
  have htm : tm 3 (n : Int) = 3 * (n : Int) + 1 := by unfold tm; rw [if_pos (by omega)]
  by_cases h1 : x = 0 ∨ 3 * n + 1 < x
  · refine (add_unknown g n V x A c xs.length w h.1 (by omega) (by omega) (by rw [htm]; omega) hx).mono ?_
    rintro e w' ⟨rfl, hb⟩
    exact ⟨⟨_, rfl⟩, grown_of_below hb, V, h.below hb h.1.lt⟩
  · obtain ⟨i, rfl⟩ : ∃ i, x = i + 1 := ⟨x - 1, by omega⟩
    cases hV : V i with
    | none =>
      refine (add_yes g n V i A c xs w B h.1 hr hB ?_ (by omega) (by omega) (by rw [htm]; omega) hV).mono ?_
      · intro hn0 ad e
        obtain ⟨ad', e', hb, _⟩ := hr.2.2.2 hn0
        rw [e] at e'
        injection e' with e'
        subst e'
        omega
      · rintro e w' ⟨rfl, hv, hg⟩
        refine ⟨⟨_, rfl⟩, hg, _, hv, fun j u hj => ?_, fun j hj => ?_⟩
        · by_cases e : j = i
          · rw [if_pos e] at hj
            injection hj with hj
            subst hj
            exact ⟨hr.lt, hl⟩
          · rw [if_neg e] at hj
            exact h.2.1 j u hj
        · rw [if_neg (by omega)]
          exact h.2.2 j hj
    | some u =>
      refine (add_voted g n V i A c xs.length w h.1 (by omega) (by omega) (by rw [htm]; omega) u hV).mono ?_
      rintro e w' ⟨rfl, hb⟩
      exact ⟨⟨_, rfl⟩, grown_of_below hb, V, h.below hb h.1.lt⟩

theorem cnt_two_min {V : Nat → Option (List Nat)} {u v : List Nat} {N : Nat} (hV : ∀ i, N ≤ i → V i = none) (h : u ≠ v) (j : Nat) : cnt V u j + cnt V v j ≤ j ∧ cnt V u j + cnt V v j ≤ N := by
  induction j with
  | zero => exact ⟨Nat.le_refl _, Nat.zero_le _⟩
  | succ j ih =>
    have e : cnt V u (j + 1) + cnt V v (j + 1) = cnt V u j + cnt V v j + ((if V j = some u then 1 else 0) + (if V j = some v then 1 else 0)) := by
      show cnt V u j + _ + (cnt V v j + _) = _
      omega
    rw [e]
    have h2 : (if V j = some u then 1 else 0) + (if V j = some v then 1 else 0) ≤ 1 := by
      by_cases h1 : V j = some u
      · have : ¬ V j = some v := by rw [h1]; simpa using h
        rw [if_pos h1, if_neg this]
        exact Nat.le_refl _
      · rw [if_neg h1]
        split <;> omega
    by_cases hj : j < N
    · omega
    · have h3 := hV j (by omega)
      rw [h3, if_neg (by simp), if_neg (by simp)]
      omega
theorem cnt_two {V : Nat → Option (List Nat)} {u v : List Nat} {N : Nat} (hV : ∀ i, N ≤ i → V i = none) (h : u ≠ v) (j : Nat) : cnt V u j + cnt V v j ≤ N := (cnt_two_min hV h j).2
theorem cnt_cap {V : Nat → Option (List Nat)} {N : Nat} (hV : ∀ i, N ≤ i → V i = none) (u : List Nat) (j : Nat) : cnt V u j ≤ N := by
  have := cnt_two hV (u := u) (v := 0 :: u) (fun e => by have := congrArg List.length e; simp at this) j
  omega
theorem cnt_pos {V : Nat → Option (List Nat)} {u : List Nat} {j : Nat} (h : 0 < cnt V u j) : ∃ i, i < j ∧ V i = some u := by
  induction j with
  | zero => exact absurd h (Nat.lt_irrefl 0)
  | succ j ih =>
    by_cases e : V j = some u
    · exact ⟨j, by omega, e⟩
    · have : cnt V u (j + 1) = cnt V u j := by show cnt V u j + _ = _; rw [if_neg e]; rfl
      rw [this] at h
      obtain ⟨i, hi, hv⟩ := ih h
      exact ⟨i, by omega, hv⟩

set_option maxRecDepth 100000 in
theorem tm2' (n : Nat) (h : 1 ≤ n ∧ n ≤ 4) : tm 2 (n : Int) = ((2 * n + 1 : Nat) : Int) := by
  unfold tm
  rw [if_pos (by omega)]
  omega
set_option maxRecDepth 100000 in
set_option maxHeartbeats 4000000 in
theorem once_walk (f : Int) (A : Option Addr) (c : Nat) (l : List Row) (w : World) (h : Ballots w w.heap.size A l) :
    Calls Try.prog 6 #[.int .i64 f, .slice A l.length c] w fun e w' => e = .returned (.bool true) ∧ Below w.heap.size w w' := by
  by_cases hf : 1 ≤ f ∧ f ≤ 4
  case neg =>
    have B0 := Lib.hid (Below.refl w.heap.size w)
    go_enter Try.func6, Try.ntmps6
    go_wp2_with fail
    refine (new_no f _ hf).mono ?_
    rintro e w1 ⟨⟨k, rfl, hk⟩, rfl⟩
    have hk2 : (k != 0) = true := by simpa using hk
    by_cases hl : (40 : Int) < (l.length : Int)
    · go_wp2_with fail
      refine (alive_true _).mono ?_
      rintro e w9 ⟨rfl, hb⟩
      have HB := Lib.hid (bchain B0.out hb B0.out.size)
      clear hb
      go_wp2_with fail
      go_ret
      exact ⟨rfl, HB.out⟩
    · go_wp2_with fail
      refine (alive_true _).mono ?_
      rintro e w9 ⟨rfl, hb⟩
      have HB := Lib.hid (bchain B0.out hb B0.out.size)
      clear hb
      go_wp2_with fail
      go_ret
      exact ⟨rfl, HB.out⟩
  case pos =>
  obtain ⟨n, rfl⟩ := Int.eq_ofNat_of_zero_le (show 0 ≤ f by omega)
  have hn : 1 ≤ n ∧ n ≤ 4 := by omega
  have hV0 := vot_new (n : Int) w
  have hB0 : Below w.heap.size w (w.alloc (.cells (vc (n : Int)) 58)) := (Below.refl w.heap.size w).alloc (Nat.le_refl _) _
  have hnew := Lib.hid (new_yes (n : Int) w (by omega) (by omega))
  generalize w.alloc (.cells (vc (n : Int)) 58) = w1 at *
  have HV := Lib.hid (show VS w1 w.heap.size n noV from ⟨hV0, fun i u h => by simp [noV] at h, fun i _ => rfl⟩)
  have BB := Lib.hid hB0
  have hszw := hB0.size
  clear hV0 hB0
  have HL := Lib.hid h
  clear h
  by_cases hl : (40 : Int) < (l.length : Int)
  · go_enter Try.func6, Try.ntmps6
    go_wp2_with fail
    refine hnew.out.mono ?_
    rintro e w8 ⟨rfl, rfl⟩
    go_wp2_with fail
    refine (alive_true _).mono ?_
    rintro e w9 ⟨rfl, hb⟩
    have HB := Lib.hid (bchain BB.out hb BB.out.size)
    clear hb
    go_wp2_with fail
    go_ret
    exact ⟨rfl, HB.out⟩
  have hN := Lib.hid (fun w => n_any (n : Int) w)
  rw [tm3 n hn] at hN
  have hM := Lib.hid (fun w => most_any (n : Int) w)
  rw [tm2' n hn] at hM
  go_enter Try.func6, Try.ntmps6
  go_wp2_with fail
  refine hnew.out.mono ?_
  rintro e w8 ⟨rfl, rfl⟩
  clear hnew
  go_wp2_with fail
  go_loopw [7] (fun i wr => ∃ (j : Nat) (V : Nat → Option (List Nat)), i = .int .i64 (j : Int) ∧ j ≤ l.length ∧ Hid (VS wr w.heap.size n V) ∧ Hid (Below w.heap.size w wr)) (fun i _ => l.length - (intOf i).toNat)
  case atStart => exact ⟨0, noV, rfl, by omega, HV, BB⟩
  case round =>
    clear HV BB
    obtain ⟨j, V, rfl, hj, HV, BB⟩ := hrel
    have hszr := BB.out.size
    by_cases hlt : j < l.length
    · have hji : (j : Int) < (l.length : Int) := by omega
      obtain ⟨b0, o0, r, rfl, hb0, hx, ce0, ce1, ce2, ce3, hRd⟩ := (HL.out.below BB.out).at_ hlt
      obtain ⟨x, n1, d1, n2, d2, d3, A1, A2, A3, xs⟩ := r
      simp only at ce0 ce1 ce2 ce3 hRd hx
      by_cases q1 : (100 : Int) < (xs.length : Int)
      · clear hx hRd
        go_wp2_with fail
        refine (alive_true _).mono ?_
        rintro e w9 ⟨rfl, hb⟩
        have HB := Lib.hid (bchain BB.out hb BB.out.size)
        clear hb
        go_wp2_with fail
        go_ret
        exact ⟨rfl, HB.out⟩
      · by_cases q2 : (500 : Int) < (n1 : Int)
        · clear hx hRd
          go_wp2_with fail
          refine (alive_true _).mono ?_
          rintro e w9 ⟨rfl, hb⟩
          have HB := Lib.hid (bchain BB.out hb BB.out.size)
          clear hb
          go_wp2_with fail
          go_ret
          exact ⟨rfl, HB.out⟩
        · by_cases q3 : (100 : Int) < (n2 : Int)
          · clear hx hRd
            go_wp2_with fail
            refine (alive_true _).mono ?_
            rintro e w9 ⟨rfl, hb⟩
            have HB := Lib.hid (bchain BB.out hb BB.out.size)
            clear hb
            go_wp2_with fail
            go_ret
            exact ⟨rfl, HB.out⟩
          · have hcall := Lib.hid (fun (W : World) (hv : VS W w.heap.size n V) (hr : Rd W w.heap.size A3 d3 xs) (hs : w.heap.size ≤ W.heap.size) => add_all w.heap.size n V x A3 d3 xs W w.heap.size hv hr hs (Nat.le_refl _) hn hRd.1 (by omega))
            have RR := Lib.hid hRd.2
            clear hx hRd
            go_wp2_with fail
            go_region_held3 (fun w' => w'.cell? ⟨b0, o0 + j * 4, none⟩ = some (.int .u64 (x : Int)) ∧ w'.cell? ⟨b0, o0 + j * 4 + 3, none⟩ = some (.slice A3 xs.length d3)) (first | (constructor <;> assumption)) (first | (go_at_call 20; refine (hcall.out _ (by exact HV.out) (by exact RR.out) (by exact hszr)).mono ?_; rintro e w6 ⟨⟨k6, rfl⟩, hg6', V6, hv6⟩; have hg6 : wr.grownBy w6 (some w.heap.size) := (by first | exact hg6' | exact grown_undrew hg6' | exact grown_undrewN hg6'); have B6 := Lib.hid (BB.out.grown hg6 hszr (fun k hk => by cases hk; exact Nat.le_refl _)); have HV6 := Lib.hid hv6; have ce0' : w6.cell? ⟨b0, o0 + j * 4, none⟩ = some (.int .u64 (x : Int)) := (hg6.cell_far ⟨b0, o0 + j * 4, none⟩ (by show b0 < _; omega) (by intro he; injection he with he; have : b0 = w.heap.size := he; omega)).trans ce0; have ce3' : w6.cell? ⟨b0, o0 + j * 4 + 3, none⟩ = some (.slice A3 xs.length d3) := (hg6.cell_far ⟨b0, o0 + j * 4 + 3, none⟩ (by show b0 < _; omega) (by intro he; injection he with he; have : b0 = w.heap.size := he; omega)).trans ce3; clear hg6 hg6' hv6))
            go_wp2_with fail
            go_roundw
            case rel => exact ⟨j + 1, V6, by go_num, by omega, HV6, B6⟩
            case measure => simp [intOf]; omega
    · have hji : ¬ (j : Int) < (l.length : Int) := by omega
      clear hlt
      go_wp2_with fail
      refine (hM.out _).mono ?_
      rintro e w8 ⟨rfl, rfl⟩
      go_wp2_with fail
      refine (enough_any w.heap.size _ V _ wr HV.out.1 HV.out.2.1 (by omega)).mono ?_
      rintro e w2 ⟨hb2, hE⟩
      have B2 := Lib.hid (bchain BB.out hb2 BB.out.size)
      have V2 := Lib.hid (HV.out.below hb2 HV.out.1.lt)
      clear hb2 HV BB
      rcases hE with ⟨u, A6, c6, i6, hi6, hV6, hcu, rfl, hr2⟩ | ⟨rfl, hno⟩
      · have R2 := Lib.hid hr2
        clear hr2
        go_wp2_with fail
        go_loopw [10] (fun i wr => ∃ j : Nat, i = .int .i64 (j : Int) ∧ j ≤ l.length ∧ Hid (Below w2.heap.size w2 wr)) (fun i _ => l.length - (intOf i).toNat)
        case atStart => exact ⟨0, rfl, by omega, Below.refl _ _⟩
        case round =>
          obtain ⟨j, rfl, hj, BX⟩ := hrel
          have BW := Lib.hid (B2.out.trans (BX.out.mono B2.out.size))
          have VX := Lib.hid (V2.out.below BX.out V2.out.1.lt)
          by_cases hlt : j < l.length
          · have hji : (j : Int) < (l.length : Int) := by omega
            obtain ⟨b0, o0, r, rfl, hb0, hx, ce0, ce1, ce2, ce3, hRd⟩ := (HL.out.below BW.out).at_ hlt
            obtain ⟨x, n1, d1, n2, d2, d3, A1, A2, A3, xs⟩ := r
            simp only at ce0 ce1 ce2 ce3 hRd hx
            have RR := Lib.hid hRd.2
            have hcnt := cnt_cap VX.out.2.2 xs 13
            have hcall := Lib.hid (count_any w.heap.size _ V A3 d3 xs wr _ VX.out.1 hRd.2 BW.out.size (fun i u h => (VX.out.2.1 i u h).1))
            clear hRd hx
            go_wp2_with fail
            refine hcall.out.mono ?_
            rintro e w3 ⟨rfl, hb3⟩
            have BX3 := Lib.hid (bchain BX.out hb3 BX.out.size)
            have RR3 := Lib.hid (RR.out.below hb3 (BW.out.size))
            have VX3 := Lib.hid (VX.out.below hb3 VX.out.1.lt)
            have ce3' : w3.cell? ⟨b0, o0 + j * 4 + 3, none⟩ = some (.slice A3 xs.length d3) := (hb3.cell (p := ⟨b0, o0 + j * 4 + 3, none⟩) (by have := BW.out.size; show b0 < _; omega)).trans ce3
            clear hb3 hcall ce0 ce1 ce2 ce3
            go_wp2_with fail
            refine (hN.out _).mono ?_
            rintro e w8 ⟨rfl, rfl⟩
            have hq1 : ¬ (((3 * n + 1 : Nat) : Int) < ((cnt V xs 13 : Nat) : Int)) := by omega
            go_wp2_with fail
            refine (hM.out _).mono ?_
            rintro e w8 ⟨rfl, rfl⟩
            by_cases hm : ((2 * n + 1 : Nat) : Int) ≤ ((cnt V xs 13 : Nat) : Int)
            · have hxu : u = xs := by
                by_cases e : u = xs
                · exact e
                · have := cnt_two VX.out.2.2 e 13
                  omega
              subst hxu
              go_wp2_with fail
              refine (same_any A6 c6 u A3 d3 u _ _ _ (R2.out.below BX3.out (Nat.le_refl _)) RR3.out true (by simp)).mono ?_
              rintro e w8 ⟨rfl, n8, rfl⟩
              have BX4 := Lib.hid (below_drewN BX3.out n8)
              clear hm
              go_wp2_with fail
              go_roundw
              case rel => exact ⟨j + 1, by go_num, by omega, BX4⟩
              case measure => simp [intOf]; omega
            · go_wp2_with fail
              go_roundw
              case rel => exact ⟨j + 1, by go_num, by omega, BX3⟩
              case measure => simp [intOf]; omega
          · have hji : ¬ (j : Int) < (l.length : Int) := by omega
            have hj2 : j = l.length := by omega
            clear hj2 hlt
            go_wp2_with fail
            refine (count_any w.heap.size _ V A6 c6 u wr _ VX.out.1 (R2.out.below BX.out (Nat.le_refl _)) BX.out.size (fun i u h => (VX.out.2.1 i u h).1)).mono ?_
            rintro e w3 ⟨rfl, hb3⟩
            have BW3 := Lib.hid (bchain BW.out hb3 BW.out.size)
            clear hb3
            go_wp2_with fail
            refine (hM.out _).mono ?_
            rintro e w8 ⟨rfl, rfl⟩
            go_wp2_with fail
            refine (alive_true _).mono ?_
            rintro e w9 ⟨rfl, hb⟩
            have HB := Lib.hid (bchain BW3.out hb BW3.out.size)
            clear hb
            go_wp2_with fail
            go_ret
            exact ⟨rfl, HB.out⟩
      · have hno := Lib.hid hno
        go_wp2_with fail
        go_loopw [10] (fun i wr => ∃ j : Nat, i = .int .i64 (j : Int) ∧ j ≤ l.length ∧ Hid (Below w2.heap.size w2 wr)) (fun i _ => l.length - (intOf i).toNat)
        case atStart => exact ⟨0, rfl, by omega, Below.refl _ _⟩
        case round =>
          obtain ⟨j, rfl, hj, BX⟩ := hrel
          have BW := Lib.hid (B2.out.trans (BX.out.mono B2.out.size))
          have VX := Lib.hid (V2.out.below BX.out V2.out.1.lt)
          by_cases hlt : j < l.length
          · have hji : (j : Int) < (l.length : Int) := by omega
            obtain ⟨b0, o0, r, rfl, hb0, hx, ce0, ce1, ce2, ce3, hRd⟩ := (HL.out.below BW.out).at_ hlt
            obtain ⟨x, n1, d1, n2, d2, d3, A1, A2, A3, xs⟩ := r
            simp only at ce0 ce1 ce2 ce3 hRd hx
            have RR := Lib.hid hRd.2
            have hcnt := cnt_cap VX.out.2.2 xs 13
            have hcall := Lib.hid (count_any w.heap.size _ V A3 d3 xs wr _ VX.out.1 hRd.2 BW.out.size (fun i u h => (VX.out.2.1 i u h).1))
            clear hRd hx
            go_wp2_with fail
            refine hcall.out.mono ?_
            rintro e w3 ⟨rfl, hb3⟩
            have BX3 := Lib.hid (bchain BX.out hb3 BX.out.size)
            have RR3 := Lib.hid (RR.out.below hb3 (BW.out.size))
            have VX3 := Lib.hid (VX.out.below hb3 VX.out.1.lt)
            have ce3' : w3.cell? ⟨b0, o0 + j * 4 + 3, none⟩ = some (.slice A3 xs.length d3) := (hb3.cell (p := ⟨b0, o0 + j * 4 + 3, none⟩) (by have := BW.out.size; show b0 < _; omega)).trans ce3
            clear hb3 hcall ce0 ce1 ce2 ce3
            go_wp2_with fail
            refine (hN.out _).mono ?_
            rintro e w8 ⟨rfl, rfl⟩
            have hq1 : ¬ (((3 * n + 1 : Nat) : Int) < ((cnt V xs 13 : Nat) : Int)) := by omega
            go_wp2_with fail
            refine (hM.out _).mono ?_
            rintro e w8 ⟨rfl, rfl⟩
            by_cases hm : ((2 * n + 1 : Nat) : Int) ≤ ((cnt V xs 13 : Nat) : Int)
            · exfalso
              obtain ⟨i, hi, hv⟩ := cnt_pos (V := V) (u := xs) (j := 13) (by omega)
              have := hno.out i hi xs hv
              omega
            · go_wp2_with fail
              go_roundw
              case rel => exact ⟨j + 1, by go_num, by omega, BX3⟩
              case measure => simp [intOf]; omega
          · have hji : ¬ (j : Int) < (l.length : Int) := by omega
            have hj2 : j = l.length := by omega
            clear hj2 hlt
            go_wp2_with fail
            refine (alive_true _).mono ?_
            rintro e w9 ⟨rfl, hb⟩
            have HB := Lib.hid (bchain BW.out hb BW.out.size)
            clear hb
            go_wp2_with fail
            go_ret
            exact ⟨rfl, HB.out⟩
end Go.Proofs.Ytleclkggdhofmaa
