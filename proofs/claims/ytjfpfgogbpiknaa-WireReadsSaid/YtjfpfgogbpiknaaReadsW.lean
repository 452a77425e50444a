/- The walk of WireReads: what a reader answers to any asks is what the reference answers; no condition. -/
import Derived.Test.YtjfpfgogbpiknaaCodeG
import Derived.Deep.RegionHeld3
namespace Go.Proofs.Ytjfpfgogbpiknaa
open Go.RowKit
set_option linter.unusedVariables false
set_option linter.unusedSimpArgs false

theorem dec_rest : ∀ (bs : List Nat) (i n v : Nat) (r : List Nat), dec i n bs = .inr (v, r) → ∃ j, r = bs.drop j := by
  intro bs
  induction bs with
  | nil => intro i n v r h; simp [dec] at h
  | cons x t ih =>
    intro i n v r h
    rw [dec] at h
    split at h
    · cases h
    · split at h
      · injection h with h
        injection h with h1 h2
        exact ⟨1, h2.symm⟩
      · obtain ⟨j, rfl⟩ := ih _ _ _ _ h
        exact ⟨j + 1, rfl⟩
/-- What a reader's step leaves is a tail of what was there. -/
def Tail (bs' bs : List Nat) : Prop := ∃ j, bs' = bs.drop j
theorem Tail.len {a b : List Nat} (h : Tail a b) : a.length ≤ b.length := by obtain ⟨j, rfl⟩ := h; rw [List.length_drop]; omega
theorem Tail.lt {a b : List Nat} (h : Tail a b) (hx : ∀ x ∈ b, x < 256) : ∀ x ∈ a, x < 256 := by obtain ⟨j, rfl⟩ := h; exact fun x hx2 => hx x (List.mem_of_mem_drop hx2)
theorem Tail.refl (a : List Nat) : Tail a a := ⟨0, rfl⟩
theorem Tail.trans {a b c : List Nat} (h : Tail a b) (k : Tail b c) : Tail a c := by
  obtain ⟨i, rfl⟩ := h
  obtain ⟨j, rfl⟩ := k
  exact ⟨j + i, by rw [List.drop_drop]⟩
theorem uRest_tail (bs : List Nat) (k : Int) : Tail (uRest bs k) bs := by
  unfold uRest
  split
  · split
    · exact Tail.refl _
    · rename_i h; exact dec_rest _ _ _ _ _ h
  · exact Tail.refl _
theorem yRest_tail (bs : List Nat) (k most : Int) : Tail (yRest bs k most) bs := by
  unfold yRest
  split
  · exact Tail.trans ⟨_, rfl⟩ (uRest_tail bs k)
  · exact uRest_tail bs k
theorem bRest_tail (bs : List Nat) (k : Int) : Tail (bRest bs k) bs := by
  unfold bRest
  split
  · split
    · exact Tail.refl _
    · split
      · exact Tail.refl _
      · exact ⟨1, rfl⟩
  · exact Tail.refl _

/-- A slice of asks reads as pairs. -/
def Asks (w : World) (B : Nat) (A : Option Addr) (qs : List (Int × Int)) : Prop :=
  0 < qs.length → ∃ b o, A = some ⟨b, o, none⟩ ∧ b < B ∧ ∀ j q, qs[j]? = some q → w.cell? ⟨b, o + j * 2, none⟩ = some (.int .i64 q.1) ∧ w.cell? ⟨b, o + j * 2 + 1, none⟩ = some (.int .i64 q.2) ∧
    -9223372036854775808 ≤ q.2 ∧ q.2 ≤ 9223372036854775807
theorem Asks.at_ {w : World} {B : Nat} {A : Option Addr} {qs : List (Int × Int)} (h : Asks w B A qs) {j : Nat} (hj : j < qs.length) : ∃ b o p q, A = some ⟨b, o, none⟩ ∧ b < B ∧ w.cell? ⟨b, o + j * 2, none⟩ = some (.int .i64 p) ∧ w.cell? ⟨b, o + j * 2 + 1, none⟩ = some (.int .i64 q) ∧
    -9223372036854775808 ≤ q ∧ q ≤ 9223372036854775807 := by
  obtain ⟨b, o, e, hb, hc⟩ := h (by omega)
  obtain ⟨h1, h2, h3, h4⟩ := hc j _ (List.getElem?_eq_getElem hj)
  exact ⟨b, o, _, _, e, hb, h1, h2, h3, h4⟩

theorem mrdr_new {w : World} {A : Option Addr} {c : Nat} {xs : List Nat} (h : Rd w w.heap.size A c xs) : Rdr (w.alloc (.cells #[.slice A xs.length c, .int .i64 0] 45)) 45 w.heap.size xs 0 :=
  ⟨A, c, heap_alloc_new _ _, h.alloc (Nat.le_refl _) _⟩
theorem grown_undrew {w w' : World} {r : Option Nat} (h : w.drew.grownBy w' r) : w.grownBy w' r := ⟨h.os, h.tape, h.output, h.size, h.block⟩
theorem grown_undrewN {w w' : World} {n : Nat} {r : Option Nat} (h : (w.drewN n).grownBy w' r) : w.grownBy w' r := ⟨h.os, h.tape, h.output, h.size, h.block⟩
theorem own_row {w w' : World} {base e g : Nat} {A : Option Addr} {c : Nat} {xs : List Nat} (h : Own w base e A c xs) (hg : w.grownBy w' (some g)) (hlt : g < base) : Own w' base e A c xs := by
  refine ⟨h.1.kept hg ?_, h.2⟩
  rcases h.form with ⟨rfl, _, _⟩ | ⟨g', rfl, hb, _⟩
  · exact .inl rfl
  · refine .inr fun he => ?_
    injection he with he
    have : g' = g := he
    omega
def RJ (w : World) (g1 g2 n : Nat) (i : Value) (wr : World) : Prop :=
  ∃ (j : Nat) (bs : List Nat) (k : Int), i = .int .i64 (j : Int) ∧ j ≤ n ∧ Hid (Rdr wr 58 g1 bs k) ∧ Hid (Rdr wr 45 g2 bs k) ∧ Hid (Below w.heap.size w wr) ∧ bs.length ≤ 10000 ∧ Hid (∀ x ∈ bs, x < 256)
theorem rd_apart {w : World} {t g B : Nat} {bs bs' : List Nat} {k : Int} {A : Option Addr} {c : Nat} (R : Rdr w t g bs k) (M : Rd w B A c bs') (hn : 0 < bs'.length) (ad : Addr) (hA : A = some ad) : ad.block ≠ g := by
  intro hb
  obtain ⟨A1, c1, hh, _⟩ := R
  obtain ⟨ad', x, e, _, _, _, hc⟩ := M.at_ hn
  rw [hA] at e
  injection e with e
  subst e
  obtain ⟨b, off, spot⟩ := ad
  have hb : b = g := hb
  subst hb
  have hs : spot = none := by simpa [Addr.add] using World.cell?_spot hc
  subst hs
  have hc2 : w.cell? ⟨b, off, none⟩ = some (.int .u8 (x : Int)) := by simpa [Addr.add] using hc
  rw [cell_of_row w b off _ _ _ hh] at hc2
  match off, hc2 with
  | 0, hc2 => simp at hc2
  | 1, hc2 => simp at hc2
  | n + 2, hc2 => simp at hc2
theorem Rdr.apart {w w' : World} {t1 t2 g1 g2 : Nat} {bs1 bs2 : List Nat} {k1 k2 : Int} (M : Rdr w t2 g2 bs2 k2) (R : Rdr w t1 g1 bs1 k1) (hne : g2 ≠ g1) (hg : w.grownBy w' (some g1)) : Rdr w' t2 g2 bs2 k2 := by
  have hl := M.lt
  obtain ⟨A, c, hh, hr⟩ := M
  refine ⟨A, c, (hg.block g2 hl (fun e => by injection e with e; exact hne e)).trans hh, hr.1, hr.2.1, hr.2.2.1, fun hn => ?_⟩
  obtain ⟨ad, e, hb, hc⟩ := hr.2.2.2 hn
  have hap := rd_apart R hr hn ad e
  refine ⟨ad, e, hb, fun j x hx => ?_⟩
  rw [World.cell?_of_block (w := w)]
  · exact hc j x hx
  · rw [add_block]
    exact hg.block _ (by omega) (fun e => by injection e with e; exact hap e)

set_option maxRecDepth 100000 in
set_option maxHeartbeats 4000000 in
theorem wireReads_walk (A : Option Addr) (c : Nat) (xs : List Nat) (A2 : Option Addr) (c2 : Nat) (qs : List (Int × Int)) (w : World) (h : Rd w w.heap.size A c xs) (h2 : Asks w w.heap.size A2 qs) (hq : qs.length ≤ 9223372036854775807) :
    Calls Try.prog 8 #[.slice A xs.length c, .slice A2 qs.length c2] w (Yes w) := by
  have H := Lib.hid h
  have H2 := Lib.hid h2
  clear h h2
  by_cases hl : 10000 < xs.length
  · have hli : (10000 : Int) < (xs.length : Int) := by omega
    clear hl
    go_enter Try.func8, Try.ntmps8
    go_wp2_with fail
    refine (alive_any _).mono ?_
    rintro e w1 ⟨rfl, hb⟩
    go_wp2_with fail
    go_ret
    exact ⟨rfl, hb⟩
  · have hli : ¬ (10000 : Int) < (xs.length : Int) := by omega
    by_cases hlq : 100 < qs.length
    · have hlj : (100 : Int) < (qs.length : Int) := by omega
      clear hl
      go_enter Try.func8, Try.ntmps8
      go_wp2_with fail
      refine (alive_any _).mono ?_
      rintro e w1 ⟨rfl, hb⟩
      go_wp2_with fail
      go_ret
      exact ⟨rfl, hb⟩
    · have hlj : ¬ (100 : Int) < (qs.length : Int) := by omega
      go_enter Try.func8, Try.ntmps8
      go_wp2_with fail
      refine (read_any A c xs _ _ H.out (by omega) (Nat.le_refl _)).mono ?_
      rintro e w1 ⟨g1, rfl, hr1, hb1, hge1⟩
      have R1 := Lib.hid hr1
      have B1 := Lib.hid hb1
      clear hr1 hb1
      go_wp2_with fail
      refine (alive_any _).mono ?_
      rintro e w3 ⟨rfl, hb3⟩
      have M3 := Lib.hid ((mrdr_new (H.out.below B1.out (Nat.le_refl _) |>.more B1.out.size)).below hb3 (by simp))
      have R3 := Lib.hid ((R1.out.below ((Below.refl w1.heap.size w1).alloc (Nat.le_refl _) (.cells #[.slice A xs.length c, .int .i64 0] 45)) R1.out.lt).below hb3 (by have := R1.out.lt; simp; omega))
      have B3 := Lib.hid (bchain (B1.out.alloc B1.out.size (.cells #[.slice A xs.length c, .int .i64 0] 45)) hb3)
      have hg12 := R1.out.lt
      have hge2 := B1.out.size
      clear hb3 R1 B1
      generalize w1.heap.size = g2 at *
      go_wp2_with fail
      go_loopw [7] (fun i wr => RJ w g1 g2 qs.length i wr) (fun i _ => qs.length - (intOf i).toNat)
      case atStart => exact ⟨0, xs, 0, rfl, by omega, R3, M3, B3, by omega, H.out.lt⟩
      case round =>
        obtain ⟨j, bs, k, rfl, hj, R, M, BB, hbl, hbx⟩ := hrel
        clear R3 M3 B3
        by_cases hlt : j < qs.length
        · have hjlt : (j : Int) < (qs.length : Int) := by omega
          obtain ⟨b0, o0, p, q, rfl, hadb, hc0, hc1, hq1, hq2⟩ := H2.out.at_ hlt
          have k0 : wr.cell? ⟨b0, o0 + j * 2, none⟩ = some (.int .i64 p) := (BB.out.cell hadb).trans hc0
          have k1 : wr.cell? ⟨b0, o0 + j * 2 + 1, none⟩ = some (.int .i64 q) := (BB.out.cell hadb).trans hc1
          clear hc0 hc1
          by_cases hp0 : p = 0
          · skip
            subst hp0
            go_wp2_with fail
            refine (ruint_any g1 bs k _ R.out (by omega)).mono ?_
            rintro e w4 ⟨rfl, hr4, hg4⟩
            have R4 := Lib.hid hr4
            have M4 := Lib.hid (M.out.apart R.out (by omega) hg4)
            have B4 := Lib.hid (below_grown_new BB.out hg4 hge1)
            clear hr4 hg4
            go_wp2_with fail
            refine (muint_any g2 bs k _ M4.out (by omega)).mono ?_
            rintro e w5 ⟨rfl, hr5, hg5⟩
            have M6 := Lib.hid hr5
            have R6 := Lib.hid (R4.out.apart M4.out (by omega) hg5)
            have B6 := Lib.hid (below_grown_new B4.out hg5 hge2)
            have TT := Lib.hid (uRest_tail bs k)
            clear hr5 hg5
            generalize uNum bs k = un at *
            generalize uRest bs k = bs6 at *
            generalize uK bs k = k6 at *
            go_wp2_with fail
            refine (left_any g1 bs6 k6 _ _ R6.out rfl).mono ?_
            rintro e w6 ⟨rfl, rfl⟩
            go_wp2_with fail
            refine (mleft_any g2 bs6 k6 _ _ M6.out rfl).mono ?_
            rintro e w6 ⟨rfl, rfl⟩
            go_wp2_with fail
            refine (done_any g1 bs6 k6 _ _ R6.out rfl).mono ?_
            rintro e w6 ⟨rfl, rfl⟩
            go_wp2_with fail
            refine (mdone_any g2 bs6 k6 _ _ M6.out rfl).mono ?_
            rintro e w6 ⟨rfl, rfl⟩
            go_wp2_with fail
            go_roundw
            case rel => exact ⟨j + 1, bs6, k6, by go_num, by omega, R6, M6, B6, by have := TT.out.len; omega, TT.out.lt hbx.out⟩
            case measure => simp [intOf]; omega
          · have u0 : (p == 0) = false := by simpa using hp0
            by_cases hp1 : p = 1
            · skip
              subst hp1
              go_wp2_with fail
              go_region_held3 (fun w' => w'.cell? ⟨b0, o0 + j * 2 + 1, none⟩ = some (.int .i64 q)) (assumption) (first | (go_at_call 26; refine (rint_any g1 bs k q _ (by exact R.out) (by omega) hbx.out hq1 hq2).mono ?_; rintro e w4 ⟨rfl, hr4, hg4'⟩; have hg4 : wr.grownBy w4 (some g1) := (by first | exact hg4' | exact grown_undrew hg4' | exact grown_undrewN hg4'); have k4 : w4.cell? ⟨b0, o0 + j * 2 + 1, none⟩ = some (.int .i64 q) := (hg4.cell_far ⟨b0, o0 + j * 2 + 1, none⟩ (by have := R.out.lt; show b0 < _; omega) (by intro he; injection he with he; have : b0 = g1 := he; omega)).trans k1; have R4 := Lib.hid hr4; have M4 := Lib.hid (M.out.apart R.out (by omega) hg4); have B4 := Lib.hid (below_grown_new BB.out hg4 hge1); clear hr4 hg4 hg4') | (go_at_call 27; refine (mint_any g2 bs k q _ (by exact M4.out) (by omega) hbx.out hq1 hq2).mono ?_; rintro e w5 ⟨rfl, hr5, hg5'⟩; have hg5 : w4.grownBy w5 (some g2) := (by first | exact hg5' | exact grown_undrew hg5' | exact grown_undrewN hg5'); have k5 : w5.cell? ⟨b0, o0 + j * 2 + 1, none⟩ = some (.int .i64 q) := (hg5.cell_far ⟨b0, o0 + j * 2 + 1, none⟩ (by have := R4.out.lt; show b0 < _; omega) (by intro he; injection he with he; have : b0 = g2 := he; omega)).trans k4; have M6 := Lib.hid hr5; have R6 := Lib.hid (R4.out.apart M4.out (by omega) hg5); have B6 := Lib.hid (below_grown_new B4.out hg5 hge2); clear hr5 hg5 hg5'))
              have TT := Lib.hid (uRest_tail bs k)
              generalize iNum bs k q = un at *
              generalize uRest bs k = bs6 at *
              generalize iK bs k q = k6 at *
              go_wp2_with fail
              refine (left_any g1 bs6 k6 _ _ R6.out rfl).mono ?_
              rintro e w6 ⟨rfl, rfl⟩
              go_wp2_with fail
              refine (mleft_any g2 bs6 k6 _ _ M6.out rfl).mono ?_
              rintro e w6 ⟨rfl, rfl⟩
              go_wp2_with fail
              refine (done_any g1 bs6 k6 _ _ R6.out rfl).mono ?_
              rintro e w6 ⟨rfl, rfl⟩
              go_wp2_with fail
              refine (mdone_any g2 bs6 k6 _ _ M6.out rfl).mono ?_
              rintro e w6 ⟨rfl, rfl⟩
              go_wp2_with fail
              go_roundw
              case rel => exact ⟨j + 1, bs6, k6, by go_num, by omega, R6, M6, B6, by have := TT.out.len; omega, TT.out.lt hbx.out⟩
              case measure => simp [intOf]; omega
            · have u1 : (p == 1) = false := by simpa using hp1
              by_cases hp2 : p = 2
              · skip
                subst hp2
                go_wp2_with fail
                go_region_held3 (fun w' => w'.cell? ⟨b0, o0 + j * 2 + 1, none⟩ = some (.int .i64 q)) (assumption) (first | (go_at_call 23; refine (rbytes_any g1 bs k q _ (by exact R.out) (by omega) hbx.out hq1 hq2).mono ?_; rintro e w4 ⟨A4, c4, zs4, rfl, hz4, ho4', hr4, hg4'⟩; have hg4 : wr.grownBy w4 (some g1) := (by first | exact hg4' | exact grown_undrew hg4' | exact grown_undrewN hg4'); have ho4 : Own w4 wr.heap.size 5 A4 c4 zs4 := ho4'; have O4 := Lib.hid ho4; have k4 : w4.cell? ⟨b0, o0 + j * 2 + 1, none⟩ = some (.int .i64 q) := (hg4.cell_far ⟨b0, o0 + j * 2 + 1, none⟩ (by have := R.out.lt; show b0 < _; omega) (by intro he; injection he with he; have : b0 = g1 := he; omega)).trans k1; have R4 := Lib.hid hr4; have M4 := Lib.hid (M.out.apart R.out (by omega) hg4); have B4 := Lib.hid (below_grown_new BB.out hg4 hge1); clear hr4 hg4 hg4' ho4 ho4') | (go_at_call 28; refine (mbytes_any g2 bs k q _ (by exact M4.out) (by omega) hbx.out hq1 hq2).mono ?_; rintro e w5 ⟨A5, c5, zs5, rfl, hz5, hd5, hr5, hg5'⟩; have hg5 : w4.grownBy w5 (some g2) := (by first | exact hg5' | exact grown_undrew hg5' | exact grown_undrewN hg5'); have D5 := Lib.hid hd5; have O5 := Lib.hid (own_row O4.out hg5 M.out.lt); have k5 : w5.cell? ⟨b0, o0 + j * 2 + 1, none⟩ = some (.int .i64 q) := (hg5.cell_far ⟨b0, o0 + j * 2 + 1, none⟩ (by have := R4.out.lt; show b0 < _; omega) (by intro he; injection he with he; have : b0 = g2 := he; omega)).trans k4; have M6 := Lib.hid hr5; have R6 := Lib.hid (R4.out.apart M4.out (by omega) hg5); have B6 := Lib.hid (below_grown_new B4.out hg5 hge2); clear hr5 hg5 hg5' hd5) | (go_at_call 15; refine (same_any A4 c4 zs4 A5 c5 zs5 _ _ _ (by exact O5.out.rd) (by exact D5.out) true (by rw [hz4.out, hz5.out]; simp)).mono ?_; rintro e w6 ⟨rfl, n6, rfl⟩))
                have TT := Lib.hid (yRest_tail bs k q)
                have R6 := Lib.hid (R6.out.drewN n6)
                have M6 := Lib.hid (M6.out.drewN n6)
                have B6 := Lib.hid (below_drewN B6.out n6)
                clear O5 D5 O4 hz4 hz5
                generalize yRest bs k q = bs6 at *
                generalize yK bs k q = k6 at *
                go_wp2_with fail
                refine (left_any g1 bs6 k6 _ _ R6.out rfl).mono ?_
                rintro e w6 ⟨rfl, rfl⟩
                go_wp2_with fail
                refine (mleft_any g2 bs6 k6 _ _ M6.out rfl).mono ?_
                rintro e w6 ⟨rfl, rfl⟩
                go_wp2_with fail
                refine (done_any g1 bs6 k6 _ _ R6.out rfl).mono ?_
                rintro e w6 ⟨rfl, rfl⟩
                go_wp2_with fail
                refine (mdone_any g2 bs6 k6 _ _ M6.out rfl).mono ?_
                rintro e w6 ⟨rfl, rfl⟩
                go_wp2_with fail
                go_roundw
                case rel => exact ⟨j + 1, bs6, k6, by go_num, by omega, R6, M6, B6, by have := TT.out.len; omega, TT.out.lt hbx.out⟩
                case measure => simp [intOf]; omega
              · have u2 : (p == 2) = false := by simpa using hp2
                by_cases hp3 : p = 3
                · skip
                  subst hp3
                  go_wp2_with fail
                  refine (rbool_any g1 bs k _ R.out (by omega)).mono ?_
                  rintro e w4 ⟨rfl, hr4, hg4⟩
                  have R4 := Lib.hid hr4
                  have M4 := Lib.hid (M.out.apart R.out (by omega) hg4)
                  have B4 := Lib.hid (below_grown_new BB.out hg4 hge1)
                  clear hr4 hg4
                  go_wp2_with fail
                  refine (mbool_any g2 bs k _ M4.out (by omega)).mono ?_
                  rintro e w5 ⟨rfl, hr5, hg5⟩
                  have M6 := Lib.hid hr5
                  have R6 := Lib.hid (R4.out.apart M4.out (by omega) hg5)
                  have B6 := Lib.hid (below_grown_new B4.out hg5 hge2)
                  have TT := Lib.hid (bRest_tail bs k)
                  clear hr5 hg5
                  generalize bVal bs k = un at *
                  generalize bRest bs k = bs6 at *
                  generalize bK bs k = k6 at *
                  cases un
                  all_goals
                    go_wp2_with fail
                    refine (left_any g1 bs6 k6 _ _ R6.out rfl).mono ?_
                    rintro e w6 ⟨rfl, rfl⟩
                    go_wp2_with fail
                    refine (mleft_any g2 bs6 k6 _ _ M6.out rfl).mono ?_
                    rintro e w6 ⟨rfl, rfl⟩
                    go_wp2_with fail
                    refine (done_any g1 bs6 k6 _ _ R6.out rfl).mono ?_
                    rintro e w6 ⟨rfl, rfl⟩
                    go_wp2_with fail
                    refine (mdone_any g2 bs6 k6 _ _ M6.out rfl).mono ?_
                    rintro e w6 ⟨rfl, rfl⟩
                    go_wp2_with fail
                    go_roundw
                    case rel => exact ⟨j + 1, bs6, k6, by go_num, by omega, R6, M6, B6, by have := TT.out.len; omega, TT.out.lt hbx.out⟩
                    case measure => simp [intOf]; omega
                · have u3 : (p == 3) = false := by simpa using hp3
                  by_cases hp4 : p = 4
                  · skip
                    subst hp4
                    by_cases hk : k = 0
                    · subst hk
                      go_wp2_with fail
                      refine (fail_yes g1 bs q _ R.out).mono ?_
                      rintro e w4 ⟨rfl, rfl⟩
                      have R4 := Lib.hid (R.out.setK q)
                      have M4 := Lib.hid (M.out.apart R.out (by omega) (grown_set _ _ 1 (.int .i64 q)))
                      have B4 := Lib.hid (below_grown_new BB.out (grown_set _ _ 1 (.int .i64 q)) hge1)
                      go_wp2_with fail
                      refine (mfail_yes g2 bs q _ M4.out).mono ?_
                      rintro e w5 ⟨rfl, rfl⟩
                      have M6 := Lib.hid (M4.out.setK q)
                      have R6 := Lib.hid (R4.out.apart M4.out (by omega) (grown_set _ _ 1 (.int .i64 q)))
                      have B6 := Lib.hid (below_grown_new B4.out (grown_set _ _ 1 (.int .i64 q)) hge2)
                      have TT := Lib.hid (Tail.refl bs)
                      go_wp2_with fail
                      refine (left_any g1 bs q _ _ R6.out rfl).mono ?_
                      rintro e w6 ⟨rfl, rfl⟩
                      go_wp2_with fail
                      refine (mleft_any g2 bs q _ _ M6.out rfl).mono ?_
                      rintro e w6 ⟨rfl, rfl⟩
                      go_wp2_with fail
                      refine (done_any g1 bs q _ _ R6.out rfl).mono ?_
                      rintro e w6 ⟨rfl, rfl⟩
                      go_wp2_with fail
                      refine (mdone_any g2 bs q _ _ M6.out rfl).mono ?_
                      rintro e w6 ⟨rfl, rfl⟩
                      go_wp2_with fail
                      go_roundw
                      case rel => exact ⟨j + 1, bs, q, by go_num, by omega, R6, M6, B6, by have := TT.out.len; omega, TT.out.lt hbx.out⟩
                      case measure => simp [intOf]; omega
                    · have HK := Lib.hid hk
                      clear hk
                      go_wp2_with fail
                      refine (fail_no g1 bs k q _ R.out HK.out).mono ?_
                      rintro e w4 ⟨rfl, rfl⟩
                      go_wp2_with fail
                      refine (mfail_no g2 bs k q _ M.out HK.out).mono ?_
                      rintro e w5 ⟨rfl, rfl⟩
                      have R6 := R
                      have M6 := M
                      have B6 := BB
                      have TT := Lib.hid (Tail.refl bs)
                      go_wp2_with fail
                      refine (left_any g1 bs k _ _ R6.out rfl).mono ?_
                      rintro e w6 ⟨rfl, rfl⟩
                      go_wp2_with fail
                      refine (mleft_any g2 bs k _ _ M6.out rfl).mono ?_
                      rintro e w6 ⟨rfl, rfl⟩
                      go_wp2_with fail
                      refine (done_any g1 bs k _ _ R6.out rfl).mono ?_
                      rintro e w6 ⟨rfl, rfl⟩
                      go_wp2_with fail
                      refine (mdone_any g2 bs k _ _ M6.out rfl).mono ?_
                      rintro e w6 ⟨rfl, rfl⟩
                      go_wp2_with fail
                      go_roundw
                      case rel => exact ⟨j + 1, bs, k, by go_num, by omega, R6, M6, B6, by have := TT.out.len; omega, TT.out.lt hbx.out⟩
                      case measure => simp [intOf]; omega
                  · have u4 : (p == 4) = false := by simpa using hp4
                    clear hp0 hp1 hp2 hp3 hp4
                    have R6 := R
                    have M6 := M
                    have B6 := BB
                    have TT := Lib.hid (Tail.refl bs)
                    go_wp2_with fail
                    refine (left_any g1 bs k _ _ R6.out rfl).mono ?_
                    rintro e w6 ⟨rfl, rfl⟩
                    go_wp2_with fail
                    refine (mleft_any g2 bs k _ _ M6.out rfl).mono ?_
                    rintro e w6 ⟨rfl, rfl⟩
                    go_wp2_with fail
                    refine (done_any g1 bs k _ _ R6.out rfl).mono ?_
                    rintro e w6 ⟨rfl, rfl⟩
                    go_wp2_with fail
                    refine (mdone_any g2 bs k _ _ M6.out rfl).mono ?_
                    rintro e w6 ⟨rfl, rfl⟩
                    go_wp2_with fail
                    go_roundw
                    case rel => exact ⟨j + 1, bs, k, by go_num, by omega, R6, M6, B6, by have := TT.out.len; omega, TT.out.lt hbx.out⟩
                    case measure => simp [intOf]; omega
        · have hjlt : ¬ (j : Int) < (qs.length : Int) := by omega
          go_wp2_with fail
          go_ret
          exact ⟨rfl, BB.out⟩
end Go.Proofs.Ytjfpfgogbpiknaa
