/- The walk of WireBack: a list of numbers, bytes and truths that was put is read as it was; no condition. -/
import Derived.Test.YtjfpfgogbpiknaaNumW
import Derived.Deep.RegionHeld3
namespace Go.Proofs.Ytjfpfgogbpiknaa
open Go.RowKit
set_option linter.unusedVariables false
set_option linter.unusedSimpArgs false

def Nums (w : World) (B : Nat) (A : Option Addr) (ns : List Nat) : Prop :=
  0 < ns.length → ∃ ad, A = some ad ∧ ad.block < B ∧ ∀ (j x : Nat), ns[j]? = some x → w.cell? (ad.add j) = some (.int .u64 (x : Int)) ∧ x < 18446744073709551616
def Parts (w : World) (B : Nat) (A : Option Addr) (ps : List (List Nat)) : Prop :=
  0 < ps.length → ∃ ad, A = some ad ∧ ad.block < B ∧ ∀ (j : Nat) (p : List Nat), ps[j]? = some p → ∃ Aj cj, w.cell? (ad.add j) = some (.slice Aj p.length cj) ∧ Rd w B Aj cj p
def Truths (w : World) (B : Nat) (A : Option Addr) (ts : List Bool) : Prop :=
  0 < ts.length → ∃ ad, A = some ad ∧ ad.block < B ∧ ∀ (j : Nat) (x : Bool), ts[j]? = some x → w.cell? (ad.add j) = some (.bool x)
theorem Nums.at_ {w : World} {B : Nat} {A : Option Addr} {ns : List Nat} (h : Nums w B A ns) {j : Nat} (hj : j < ns.length) : ∃ ad x, A = some ad ∧ ad.block < B ∧ ns[j]? = some x ∧ w.cell? (ad.add j) = some (.int .u64 (x : Int)) ∧ x < 18446744073709551616 := by
  obtain ⟨ad, e, hb, hc⟩ := h (by omega)
  have hg := List.getElem?_eq_getElem hj
  obtain ⟨h1, h2⟩ := hc j _ hg
  exact ⟨ad, _, e, hb, hg, h1, h2⟩
theorem Parts.at_ {w : World} {B : Nat} {A : Option Addr} {ps : List (List Nat)} (h : Parts w B A ps) {j : Nat} (hj : j < ps.length) : ∃ ad p Aj cj, A = some ad ∧ ad.block < B ∧ ps[j]? = some p ∧ w.cell? (ad.add j) = some (.slice Aj p.length cj) ∧ Rd w B Aj cj p := by
  obtain ⟨ad, e, hb, hc⟩ := h (by omega)
  have hg := List.getElem?_eq_getElem hj
  obtain ⟨Aj, cj, h1, h2⟩ := hc j _ hg
  exact ⟨ad, _, Aj, cj, e, hb, hg, h1, h2⟩
theorem Truths.at_ {w : World} {B : Nat} {A : Option Addr} {ts : List Bool} (h : Truths w B A ts) {j : Nat} (hj : j < ts.length) : ∃ ad x, A = some ad ∧ ad.block < B ∧ ts[j]? = some x ∧ w.cell? (ad.add j) = some (.bool x) := by
  obtain ⟨ad, e, hb, hc⟩ := h (by omega)
  have hg := List.getElem?_eq_getElem hj
  exact ⟨ad, _, e, hb, hg, hc j _ hg⟩

def b2n (b : Bool) : Nat := if b then 1 else 0
def putN (ns : List Nat) : List Nat := ns.flatMap enc
def putP (ps : List (List Nat)) : List Nat := ps.flatMap fun p => enc p.length ++ p
def putT (ts : List Bool) : List Nat := ts.map b2n
theorem take_snoc' {α : Type} {l : List α} {j : Nat} {x : α} (h : l[j]? = some x) : l.take (j + 1) = l.take j ++ [x] := by rw [List.take_add_one, h]; rfl
theorem drop_cons' {α : Type} {l : List α} {j : Nat} {x : α} (h : l[j]? = some x) : l.drop j = x :: l.drop (j + 1) := by
  obtain ⟨hl, hx⟩ := List.getElem?_eq_some_iff.1 h
  rw [List.drop_eq_getElem_cons hl, hx]
theorem putN_snoc {ns : List Nat} {j x : Nat} (h : ns[j]? = some x) : putN (ns.take (j + 1)) = putN (ns.take j) ++ enc x := by rw [take_snoc' h]; simp [putN]
theorem putP_snoc {ps : List (List Nat)} {j : Nat} {p : List Nat} (h : ps[j]? = some p) : putP (ps.take (j + 1)) = putP (ps.take j) ++ (enc p.length ++ p) := by rw [take_snoc' h]; simp [putP]
theorem putT_snoc {ts : List Bool} {j : Nat} {x : Bool} (h : ts[j]? = some x) : putT (ts.take (j + 1)) = putT (ts.take j) ++ [b2n x] := by rw [take_snoc' h]; simp [putT]
theorem putN_cons {ns : List Nat} {j x : Nat} (h : ns[j]? = some x) : putN (ns.drop j) = enc x ++ putN (ns.drop (j + 1)) := by rw [drop_cons' h]; simp [putN]
theorem putP_cons {ps : List (List Nat)} {j : Nat} {p : List Nat} (h : ps[j]? = some p) : putP (ps.drop j) = enc p.length ++ (p ++ putP (ps.drop (j + 1))) := by rw [drop_cons' h]; simp [putP]
theorem putT_cons {ts : List Bool} {j : Nat} {x : Bool} (h : ts[j]? = some x) : putT (ts.drop j) = b2n x :: putT (ts.drop (j + 1)) := by rw [drop_cons' h]; simp [putT]
theorem y_enc (p r : List Nat) (hp : p.length ≤ 500) : yVal (enc p.length ++ (p ++ r)) 0 500 = p ∧ yRest (enc p.length ++ (p ++ r)) 0 500 = r ∧ yK (enc p.length ++ (p ++ r)) 0 500 = 0 := by
  obtain ⟨h1, h2, h3⟩ := u_enc p.length (p ++ r) (by omega)
  have hm : (p.length : Int) ≤ 500 := by omega
  unfold yVal yRest yK iK iNum
  rw [h1, h2, h3]
  simp [if_pos hm]
theorem b_enc (b : Bool) (r : List Nat) : bVal (b2n b :: r) 0 = b ∧ bRest (b2n b :: r) 0 = r ∧ bK (b2n b :: r) 0 = 0 := by
  cases b <;> simp [bVal, bRest, bK, b2n]

theorem grown_undrew' {w w' : World} {r : Option Nat} (h : w.drew.grownBy w' r) : w.grownBy w' r := ⟨h.os, h.tape, h.output, h.size, h.block⟩
theorem grown_undrewN' {w w' : World} {n : Nat} {r : Option Nat} (h : (w.drewN n).grownBy w' r) : w.grownBy w' r := ⟨h.os, h.tape, h.output, h.size, h.block⟩

set_option maxRecDepth 100000 in
set_option maxHeartbeats 8000000 in
theorem wireBack_walk (A0 : Option Addr) (c0 : Nat) (ns : List Nat) (A1 : Option Addr) (c1 : Nat) (ps : List (List Nat)) (A2 : Option Addr) (c2 : Nat) (ts : List Bool) (w : World)
    (h0 : Nums w w.heap.size A0 ns) (h1 : Parts w w.heap.size A1 ps) (h2 : Truths w w.heap.size A2 ts) (hn0 : ns.length ≤ 9223372036854775807) (hn1 : ps.length ≤ 9223372036854775807) (hn2 : ts.length ≤ 9223372036854775807) :
    Calls Try.prog 10 #[.slice A0 ns.length c0, .slice A1 ps.length c1, .slice A2 ts.length c2] w (Yes w) := by
  have H0 := Lib.hid h0
  have H1 := Lib.hid h1
  have H2 := Lib.hid h2
  clear h0 h1 h2
  by_cases hl0 : 50 < ns.length
  · have t0 : (50 : Int) < (ns.length : Int) := by omega
    clear hl0
    go_enter Try.func10, Try.ntmps10
    go_wp2_with fail
    refine (alive_any _).mono ?_
    rintro e w1 ⟨rfl, hb⟩
    go_wp2_with fail
    go_ret
    exact ⟨rfl, hb⟩
  · have t0 : ¬ (50 : Int) < (ns.length : Int) := by omega
    by_cases hl1 : 50 < ps.length
    · have t1 : (50 : Int) < (ps.length : Int) := by omega
      clear hl1
      go_enter Try.func10, Try.ntmps10
      go_wp2_with fail
      refine (alive_any _).mono ?_
      rintro e w1 ⟨rfl, hb⟩
      go_wp2_with fail
      go_ret
      exact ⟨rfl, hb⟩
    · have t1 : ¬ (50 : Int) < (ps.length : Int) := by omega
      by_cases hl2 : 50 < ts.length
      · have t2 : (50 : Int) < (ts.length : Int) := by omega
        clear hl2
        go_enter Try.func10, Try.ntmps10
        go_wp2_with fail
        refine (alive_any _).mono ?_
        rintro e w1 ⟨rfl, hb⟩
        go_wp2_with fail
        go_ret
        exact ⟨rfl, hb⟩
      · have t2 : ¬ (50 : Int) < (ts.length : Int) := by omega
        go_enter Try.func10, Try.ntmps10
        go_wp2_with fail
        go_loopw [7, 8] (fun v i wr => ∃ (j : Nat) (A' : Option Addr) (c' : Nat) (zs : List Nat), i = .int .i64 (j : Int) ∧ v = .slice A' zs.length c' ∧ j ≤ ns.length ∧ Hid (zs = putN (ns.take j)) ∧ Hid (Own wr w.heap.size 5 A' c' zs) ∧ Hid (Below w.heap.size w wr) ∧ zs.length ≤ 10 * j) (fun _ i _ => ns.length - (intOf i).toNat)
        case atStart => exact ⟨0, none, 0, [], rfl, rfl, by omega, by simp [Hid, putN], Own.nil_ _ _ _, Below.refl _ _, by simp⟩
        case round =>
          obtain ⟨j, A', c', zs, rfl, rfl, hj, HZ, O, BB, hzl⟩ := hrel
          by_cases hlt : j < ns.length
          · have hli : (j : Int) < (ns.length : Int) := by omega
            obtain ⟨ad, x, rfl, hadb, hx, hc, hxb⟩ := H0.out.at_ hlt
            have k0 : wr.cell? (ad.add j) = some (.int .u64 (x : Int)) := (BB.out.cell (by rw [add_block]; exact hadb)).trans hc
            have HX := Lib.hid hx
            clear hx hc
            go_wp2_with fail
            refine (uint_any A' c' zs x _ _ O.out.rd (by omega) (Nat.le_refl _) hxb).mono ?_
            rintro e w4 ⟨A4, c4, zs4, rfl, hz4, ho4, hb4⟩
            have O4 := Lib.hid (ho4.less BB.out.size)
            have B4 := Lib.hid (bchain BB.out hb4)
            have hzl4 : zs4.length ≤ 10 * (j + 1) := by rw [hz4.out, List.length_append]; have := enc_len hxb; omega
            clear ho4 hb4
            go_wp2_with fail
            go_roundw
            case rel => exact ⟨j + 1, A4, c4, zs4, by go_num, rfl, by omega, by show _ = _; rw [hz4.out, HZ.out, putN_snoc HX.out], O4, B4, hzl4⟩
            case measure => simp [intOf]; omega
          · have hli : ¬ (j : Int) < (ns.length : Int) := by omega
            have HZ1 : Hid (zs = putN ns) := by show _ = _; rw [HZ.out, List.take_of_length_le (by omega)]
            clear hlt HZ
            obtain ⟨wo, rfl⟩ : ∃ wo : World, wo = wr := ⟨_, rfl⟩
            go_wp2_with fail
            go_loopw [7, 9] (fun v i wr => ∃ (j : Nat) (A' : Option Addr) (c' : Nat) (zs : List Nat), i = .int .i64 (j : Int) ∧ v = .slice A' zs.length c' ∧ j ≤ ps.length ∧ Hid (zs = putN ns ++ putP (ps.take j)) ∧ Hid (Own wr w.heap.size 5 A' c' zs) ∧ Hid (Below w.heap.size w wr) ∧ zs.length ≤ 500 + 520 * j ∧ Hid (∀ (i : Nat) (p : List Nat), i < j → ps[i]? = some p → p.length ≤ 500)) (fun _ i _ => ps.length - (intOf i).toNat)
            case atStart => exact ⟨0, A', c', zs, rfl, rfl, by omega, by show _ = _; rw [HZ1.out]; simp [putP], O, BB, by omega, by intro i p h; omega⟩
            case round =>
              clear HZ1 O BB hzl
              obtain ⟨j2, A', c', zs, rfl, rfl, hj2, HZ, O, BB, hzl, HP⟩ := hrel
              by_cases hlt : j2 < ps.length
              · have hli2 : (j2 : Int) < (ps.length : Int) := by omega
                obtain ⟨ad, p, Aj, cj, rfl, hadb, hx, hc, hrd⟩ := H1.out.at_ hlt
                have k0 : wr.cell? (ad.add j2) = some (.slice Aj p.length cj) := (BB.out.cell (by rw [add_block]; exact hadb)).trans hc
                have HX := Lib.hid hx
                have RP := Lib.hid hrd
                clear hx hc hrd
                by_cases hp5 : 500 < p.length
                · have t5 : (500 : Int) < (p.length : Int) := by omega
                  go_wp2_with fail
                  refine (alive_any _).mono ?_
                  rintro e w4 ⟨rfl, hb4⟩
                  have B4 := Lib.hid (bchain BB.out hb4)
                  go_wp2_with fail
                  go_ret
                  exact ⟨rfl, B4.out⟩
                · have t5 : ¬ (500 : Int) < (p.length : Int) := by omega
                  go_wp2_with fail
                  refine (bytes_any A' c' zs Aj cj p _ _ _ O.out.rd (RP.out.below BB.out (Nat.le_refl _)) (by omega) (by omega) (Nat.le_refl _) BB.out.size).mono ?_
                  rintro e w4 ⟨A4, c4, zs4, rfl, hz4, ho4, hb4⟩
                  have O4 := Lib.hid (ho4.less BB.out.size)
                  have B4 := Lib.hid (bchain BB.out hb4)
                  have hzl4 : zs4.length ≤ 500 + 520 * (j2 + 1) := by rw [hz4.out, List.length_append, List.length_append]; have := enc_len (n := p.length) (by omega); omega
                  have HP4 : Hid (∀ (i : Nat) (q : List Nat), i < j2 + 1 → ps[i]? = some q → q.length ≤ 500) := by
                    intro i q hi hq
                    by_cases hij : i = j2
                    · subst hij; rw [HX.out] at hq; injection hq with hq; subst hq; omega
                    · exact HP.out i q (by omega) hq
                  clear ho4 hb4
                  go_wp2_with fail
                  go_roundw
                  case rel => exact ⟨j2 + 1, A4, c4, zs4, by go_num, rfl, by omega, by show _ = _; rw [hz4.out, HZ.out, putP_snoc HX.out]; simp, O4, B4, hzl4, HP4⟩
                  case measure => simp [intOf]; omega
              · have hli2 : ¬ (j2 : Int) < (ps.length : Int) := by omega
                have HZ1 : Hid (zs = putN ns ++ putP ps) := by show _ = _; rw [HZ.out, List.take_of_length_le (by omega)]
                have HPA : Hid (∀ (i : Nat) (p : List Nat), ps[i]? = some p → p.length ≤ 500) := fun i p h => HP.out i p (by have := (List.getElem?_eq_some_iff.1 h).1; omega) h
                clear hlt HZ HP
                obtain ⟨wo2, rfl⟩ : ∃ wo2 : World, wo2 = wr := ⟨_, rfl⟩
                go_wp2_with fail
                go_loopw [7, 10] (fun v i wr => ∃ (j : Nat) (A' : Option Addr) (c' : Nat) (zs : List Nat), i = .int .i64 (j : Int) ∧ v = .slice A' zs.length c' ∧ j ≤ ts.length ∧ Hid (zs = putN ns ++ putP ps ++ putT (ts.take j)) ∧ Hid (Own wr w.heap.size 5 A' c' zs) ∧ Hid (Below w.heap.size w wr) ∧ zs.length ≤ 30000 + j) (fun _ i _ => ts.length - (intOf i).toNat)
                case atStart => exact ⟨0, A', c', zs, rfl, rfl, by omega, by show _ = _; rw [HZ1.out]; simp [putT], O, BB, by omega⟩
                case round =>
                  clear HZ1 O BB hzl
                  obtain ⟨j3, A', c', zs, rfl, rfl, hj3, HZ, O, BB, hzl⟩ := hrel
                  by_cases hlt : j3 < ts.length
                  · have hli3 : (j3 : Int) < (ts.length : Int) := by omega
                    obtain ⟨ad, x, rfl, hadb, hx, hc⟩ := H2.out.at_ hlt
                    have k0 : wr.cell? (ad.add j3) = some (.bool x) := (BB.out.cell (by rw [add_block]; exact hadb)).trans hc
                    have HX := Lib.hid hx
                    clear hx hc
                    go_wp2_with fail
                    refine (bool_any A' c' zs x _ _ O.out.rd (by omega) (Nat.le_refl _)).mono ?_
                    rintro e w4 ⟨A4, c4, zs4, rfl, hz4, ho4, hb4⟩
                    have O4 := Lib.hid (ho4.less BB.out.size)
                    have B4 := Lib.hid (bchain BB.out hb4)
                    have hzl4 : zs4.length ≤ 30000 + (j3 + 1) := by rw [hz4.out, List.length_append]; simp; omega
                    clear ho4 hb4
                    go_wp2_with fail
                    go_roundw
                    case rel => exact ⟨j3 + 1, A4, c4, zs4, by go_num, rfl, by omega, by show _ = _; rw [hz4.out, HZ.out, putT_snoc HX.out]; simp [b2n], O4, B4, hzl4⟩
                    case measure => simp [intOf]; omega
                  · have hli3 : ¬ (j3 : Int) < (ts.length : Int) := by omega
                    have HZ1 : Hid (zs = putN ns ++ putP ps ++ putT ts) := by show _ = _; rw [HZ.out, List.take_of_length_le (by omega)]
                    clear hlt HZ
                    obtain ⟨wo3, rfl⟩ : ∃ wo3 : World, wo3 = wr := ⟨_, rfl⟩
                    go_wp2_with fail
                    refine (read_any A' c' zs _ _ O.out.rd (by omega) (Nat.le_refl _)).mono ?_
                    rintro e w5 ⟨g, rfl, hr5, hb5, hge5⟩
                    have B5 := Lib.hid (bchain BB.out hb5)
                    have hge : w.heap.size ≤ g := by have := BB.out.size; omega
                    rw [HZ1.out] at hr5
                    have R5 := Lib.hid hr5
                    have hzz : (putN ns ++ putP ps ++ putT ts).length ≤ 40000 := by rw [← HZ1.out]; omega
                    clear hr5 hb5 hge5 O BB HZ1
                    obtain ⟨wo4, rfl⟩ : ∃ wo4 : World, wo4 = w5 := ⟨_, rfl⟩
                    go_wp2_with fail
                    go_loopw [12] (fun i wr => ∃ (j : Nat) (rs : List Nat), i = .int .i64 (j : Int) ∧ j ≤ ns.length ∧ Hid (rs = putN (ns.drop j) ++ (putP ps ++ putT ts)) ∧ Hid (Rdr wr 58 g rs 0) ∧ Hid (Below w.heap.size w wr) ∧ rs.length ≤ 40000) (fun i _ => ns.length - (intOf i).toNat)
                    case atStart => exact ⟨0, _, rfl, by omega, by simp [Hid], R5, B5, hzz⟩
                    case round =>
                      clear R5 B5 hzz
                      obtain ⟨j4, rs, rfl, hj4, HZ, R, BB, hzl⟩ := hrel
                      by_cases hlt : j4 < ns.length
                      · have hli4 : (j4 : Int) < (ns.length : Int) := by omega
                        obtain ⟨ad, x, rfl, hadb, hx, hc, hxb⟩ := H0.out.at_ hlt
                        have k0 : wr.cell? (ad.add j4) = some (.int .u64 (x : Int)) := (BB.out.cell (by rw [add_block]; exact hadb)).trans hc
                        have hab : (ad.add j4).block < w.heap.size := by rw [add_block]; exact hadb
                        obtain ⟨rs2, HR2⟩ : ∃ rs2, Hid (rs2 = putN (ns.drop (j4 + 1)) ++ (putP ps ++ putT ts)) := ⟨_, rfl⟩
                        have HZ2 : Hid (rs = enc x ++ rs2) := by show _ = _; rw [HZ.out, putN_cons hx, HR2.out]; simp
                        have hzl2 : rs2.length ≤ 40000 := by have := congrArg List.length HZ2.out; rw [List.length_append] at this; omega
                        have U := Lib.hid (u_enc x rs2 hxb)
                        rw [← HZ2.out] at U
                        have hcall := Lib.hid (fun W h => ruint_any g rs 0 W h (by omega))
                        rw [U.out.1, U.out.2.1, U.out.2.2] at hcall
                        clear hx hc
                        go_wp2_with fail
                        go_region_held3 (fun w' => w'.cell? (ad.add j4) = some (.int .u64 (x : Int))) (assumption) (first | (go_at_call 13; refine (hcall.out _ (by exact R.out)).mono ?_; rintro e w6 ⟨rfl, hr6, hg6'⟩; have hg6 : wr.grownBy w6 (some g) := (by first | exact hg6' | exact grown_undrew' hg6' | exact grown_undrewN' hg6'); have k6 : w6.cell? (ad.add j4) = some (.int .u64 (x : Int)) := (hg6.cell_far (ad.add j4) (by have := R.out.lt; omega) (by intro he; injection he with he; omega)).trans k0; have R6 := Lib.hid hr6; have B6 := Lib.hid (below_grown_new BB.out hg6 hge); clear hr6 hg6 hg6'))
                        go_wp2_with fail
                        go_roundw
                        case rel => exact ⟨j4 + 1, rs2, by go_num, by omega, HR2, R6, B6, hzl2⟩
                        case measure => simp [intOf]; omega
                      · have hli4 : ¬ (j4 : Int) < (ns.length : Int) := by omega
                        have HZ1 : Hid (rs = putP ps ++ putT ts) := by show _ = _; rw [HZ.out, List.drop_eq_nil_of_le (by omega)]; simp [putN]
                        clear hlt HZ
                        obtain ⟨wo5, rfl⟩ : ∃ wo5 : World, wo5 = wr := ⟨_, rfl⟩
                        go_wp2_with fail
                        go_loopw [13] (fun i wr => ∃ (j : Nat) (rs : List Nat), i = .int .i64 (j : Int) ∧ j ≤ ps.length ∧ Hid (rs = putP (ps.drop j) ++ putT ts) ∧ Hid (Rdr wr 58 g rs 0) ∧ Hid (Below w.heap.size w wr) ∧ rs.length ≤ 40000) (fun i _ => ps.length - (intOf i).toNat)
                        case atStart => exact ⟨0, _, rfl, by omega, by simp [Hid, HZ1.out], R, BB, hzl⟩
                        case round =>
                          clear R BB hzl HZ1
                          obtain ⟨j5, rs, rfl, hj5, HZ, R, BB, hzl⟩ := hrel
                          by_cases hlt : j5 < ps.length
                          · have hli5 : (j5 : Int) < (ps.length : Int) := by omega
                            obtain ⟨ad, p, Aj, cj, rfl, hadb, hx, hc, hrd⟩ := H1.out.at_ hlt
                            have k0 : wr.cell? (ad.add j5) = some (.slice Aj p.length cj) := (BB.out.cell (by rw [add_block]; exact hadb)).trans hc
                            have hab : (ad.add j5).block < w.heap.size := by rw [add_block]; exact hadb
                            have RP := Lib.hid hrd
                            have hp5 := HPA.out j5 p hx
                            obtain ⟨rs2, HR2⟩ : ∃ rs2, Hid (rs2 = putP (ps.drop (j5 + 1)) ++ putT ts) := ⟨_, rfl⟩
                            have HZ2 : Hid (rs = enc p.length ++ (p ++ rs2)) := by show _ = _; rw [HZ.out, putP_cons hx, HR2.out]; simp
                            have hzl2 : rs2.length ≤ 40000 := by have := congrArg List.length HZ2.out; rw [List.length_append, List.length_append] at this; omega
                            have U := Lib.hid (y_enc p rs2 hp5)
                            rw [← HZ2.out] at U
                            have hcall := Lib.hid (fun W h hx => rbytes_any g rs 0 500 W h (by omega) hx (by omega) (by omega))
                            rw [U.out.1, U.out.2.1, U.out.2.2] at hcall
                            have hrx : Hid (∀ x ∈ rs, x < 256) := by obtain ⟨_, _, _, hr⟩ := R.out; exact hr.lt
                            clear hx hc hrd
                            go_wp2_with fail
                            go_region_held3 (fun w' => w'.cell? (ad.add j5) = some (.slice Aj p.length cj)) (assumption) (first | (go_at_call 23; refine (hcall.out _ (by exact R.out) hrx.out).mono ?_; rintro e w6 ⟨A6, c6, zs6, rfl, hz6, ho6, hr6, hg6'⟩; have hg6 : wr.grownBy w6 (some g) := (by first | exact hg6' | exact grown_undrew' hg6' | exact grown_undrewN' hg6'); have k6 : w6.cell? (ad.add j5) = some (.slice Aj p.length cj) := (hg6.cell_far (ad.add j5) (by have := R.out.lt; omega) (by intro he; injection he with he; omega)).trans k0; have R6 := Lib.hid hr6; have B6 := Lib.hid (below_grown_new BB.out hg6 hge); have O6 := Lib.hid ho6.rd; clear hr6 hg6 hg6' ho6) | (go_at_call 15; refine (same_any A6 c6 zs6 Aj cj p _ _ _ (by exact O6.out) (by exact (RP.out.below B6.out (Nat.le_refl _))) true (by rw [hz6.out]; simp)).mono ?_; rintro e w7 ⟨rfl, n7, rfl⟩))
                            have R7 := Lib.hid (R6.out.drewN n7)
                            have B7 := Lib.hid (below_drewN B6.out n7)
                            go_wp2_with fail
                            go_roundw
                            case rel => exact ⟨j5 + 1, rs2, by go_num, by omega, HR2, R7, B7, hzl2⟩
                            case measure => simp [intOf]; omega
                          · have hli5 : ¬ (j5 : Int) < (ps.length : Int) := by omega
                            have HZ1 : Hid (rs = putT ts) := by show _ = _; rw [HZ.out, List.drop_eq_nil_of_le (by omega)]; simp [putP]
                            clear hlt HZ
                            obtain ⟨wo6, rfl⟩ : ∃ wo6 : World, wo6 = wr := ⟨_, rfl⟩
                            go_wp2_with fail
                            go_loopw [14] (fun i wr => ∃ (j : Nat) (rs : List Nat), i = .int .i64 (j : Int) ∧ j ≤ ts.length ∧ Hid (rs = putT (ts.drop j)) ∧ Hid (Rdr wr 58 g rs 0) ∧ Hid (Below w.heap.size w wr) ∧ rs.length ≤ 40000) (fun i _ => ts.length - (intOf i).toNat)
                            case atStart => exact ⟨0, _, rfl, by omega, by simp [Hid, HZ1.out], R, BB, hzl⟩
                            case round =>
                              clear R BB hzl HZ1
                              obtain ⟨j6, rs, rfl, hj6, HZ, R, BB, hzl⟩ := hrel
                              by_cases hlt : j6 < ts.length
                              · have hli6 : (j6 : Int) < (ts.length : Int) := by omega
                                obtain ⟨ad, x, rfl, hadb, hx, hc⟩ := H2.out.at_ hlt
                                have k0 : wr.cell? (ad.add j6) = some (.bool x) := (BB.out.cell (by rw [add_block]; exact hadb)).trans hc
                                have hab : (ad.add j6).block < w.heap.size := by rw [add_block]; exact hadb
                                obtain ⟨rs2, HR2⟩ : ∃ rs2, Hid (rs2 = putT (ts.drop (j6 + 1))) := ⟨_, rfl⟩
                                have HZ2 : Hid (rs = b2n x :: rs2) := by show _ = _; rw [HZ.out, putT_cons hx, HR2.out]
                                have hzl2 : rs2.length ≤ 40000 := by have := congrArg List.length HZ2.out; simp at this; omega
                                have U := Lib.hid (b_enc x rs2)
                                rw [← HZ2.out] at U
                                have hcall := Lib.hid (fun W h => rbool_any g rs 0 W h (by omega))
                                rw [U.out.1, U.out.2.1, U.out.2.2] at hcall
                                clear hx hc
                                cases x
                                all_goals
                                  go_wp2_with fail
                                  go_region_held3 (fun w' => w'.cell? (ad.add j6) = wr.cell? (ad.add j6)) (first | rfl | assumption) (first | (go_at_call 24; refine (hcall.out _ (by exact R.out)).mono ?_; rintro e w6 ⟨rfl, hr6, hg6'⟩; have hg6 : wr.grownBy w6 (some g) := (by first | exact hg6' | exact grown_undrew' hg6' | exact grown_undrewN' hg6'); have k6 : w6.cell? (ad.add j6) = wr.cell? (ad.add j6) := (hg6.cell_far (ad.add j6) (by have := R.out.lt; omega) (by intro he; injection he with he; omega)); have R6 := Lib.hid hr6; have B6 := Lib.hid (below_grown_new BB.out hg6 hge); clear hr6 hg6 hg6'))
                                  go_wp2_with fail
                                  go_roundw
                                  case rel => exact ⟨j6 + 1, rs2, by go_num, by omega, HR2, R6, B6, hzl2⟩
                                  case measure => simp [intOf]; omega
                              · have hli6 : ¬ (j6 : Int) < (ts.length : Int) := by omega
                                have HZ1 : Hid (rs = []) := by show _ = _; rw [HZ.out, List.drop_eq_nil_of_le (by omega)]; simp [putT]
                                clear hlt HZ
                                have HZ1 := HZ1.out
                                subst HZ1
                                go_wp2_with fail
                                refine (done_any g [] 0 0 _ R.out rfl).mono ?_
                                rintro e w7 ⟨rfl, rfl⟩
                                go_wp2_with fail
                                refine (left_any g [] 0 0 _ R.out rfl).mono ?_
                                rintro e w7 ⟨rfl, rfl⟩
                                go_wp2_with fail
                                refine (alive_any _).mono ?_
                                rintro e w8 ⟨rfl, hb8⟩
                                have B8 := Lib.hid (bchain BB.out hb8)
                                clear hb8
                                go_wp2_with fail
                                go_ret
                                exact ⟨rfl, B8.out⟩
end Go.Proofs.Ytjfpfgogbpiknaa
