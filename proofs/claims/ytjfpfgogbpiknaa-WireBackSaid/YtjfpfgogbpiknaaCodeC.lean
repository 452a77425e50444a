/- Contract of wire.Reader's Uint; no condition. -/
import Derived.Test.YtjfpfgogbpiknaaCodeB
namespace Go.Proofs.Ytjfpfgogbpiknaa
open Go.RowKit
set_option linter.unusedVariables false
set_option linter.unusedSimpArgs false

/-- A scope whose label lies ahead of a loop: what holds behind the label serves the way in, too. -/
theorem wp_scope_via {P : Program} {a : Act} {w : World} {Q : Exit → Act → World → Prop} {c rest : Code} (l : Nat) (J : Act → World → Prop) (μ : Act → World → Nat) (hf : findLabel c l = some (Code.skip.seq rest))
    (pass : ∀ a w, J a w → rest.wp P (Exit.jump l (fun a' w' => J a' w' ∧ μ a' w' < μ a w) Q) a w)
    (first : Hid (∀ a w, J a w → rest.wp P (Exit.jump l J Q) a w) → c.wp P (Exit.jump l J Q) a w) : (Code.scope c).wp P Q a w :=
  wp_scope_jumps l J μ hf (first fun a w hJ => Code.wp_mono (fun e a w q => by
    cases e <;> first | exact ⟨q.1, q.2.1⟩ | exact q) (pass a w hJ)) fun a w hJ => wp_seq (wp_skip (pass a w hJ))

theorem and80 (x : Nat) (hx : x < 256) : bits .and .u8 (x : Int) 128 = ((if x < 128 then 0 else 128 : Nat) : Int) := by
  rw [show (128 : Int) = ((128 : Nat) : Int) from rfl, u8_and_nat _ _ hx (by omega)]
  congr 1
  have h := nat_bit 7 x
  rw [show (2 : Nat) ^ 7 = 128 from rfl] at h
  rw [h]
  split <;> omega
theorem and7f (x : Nat) (hx : x < 256) : bits .and .u8 (x : Int) 127 = ((x % 128 : Nat) : Int) := by
  rw [show (127 : Int) = ((127 : Nat) : Int) from rfl, u8_and_nat _ _ hx (by omega), nat_mask7]
theorem pow7 (i : Nat) : (2 : Int) ^ (7 * i) = ((128 ^ i : Nat) : Int) := by
  rw [Int.pow_mul]; simp
theorem join (n y i : Nat) (hi : i ≤ 9) (hy : y < 128) (h9 : i = 9 → y ≤ 1) (hn : n < 128 ^ i) : bits .or .u64 (n : Int) (IntKind.u64.wrap ((y : Int) * 2 ^ (7 * i))) = ((n + y * 128 ^ i : Nat) : Int) ∧ n + y * 128 ^ i < 18446744073709551616 := by
  have hb : n + y * 128 ^ i < 18446744073709551616 := by
    have hc : i = 0 ∨ i = 1 ∨ i = 2 ∨ i = 3 ∨ i = 4 ∨ i = 5 ∨ i = 6 ∨ i = 7 ∨ i = 8 ∨ i = 9 := by omega
    rcases hc with rfl | rfl | rfl | rfl | rfl | rfl | rfl | rfl | rfl | rfl <;> simp at h9 hn ⊢ <;> omega
  refine ⟨?_, hb⟩
  rw [pow7, ← Int.natCast_mul, IntKind.wrap_u64]
  have h2 : (((y * 128 ^ i : Nat) : Int) % 18446744073709551616) = ((y * 128 ^ i : Nat) : Int) := by omega
  rw [h2, u64_or_nat _ _ (by omega) (by omega), Nat.or_comm]
  congr 1
  rw [nat_join (7 * i) (y * 128 ^ i) n (by rw [Nat.pow_mul]; simp) (by rw [Nat.pow_mul]; exact hn)]
  omega

/-- A number taken from the front: what was wrong, or the number and what is left. -/
def dec (i n : Nat) : List Nat → Sum Int (Nat × List Nat)
  | [] => .inl 2
  | x :: r => if (i = 9 ∧ 1 < x) ∨ (0 < i ∧ x = 0) then .inl 3 else if x < 128 then .inr (n + x * 128 ^ i, r) else dec (i + 1) (n + x % 128 * 128 ^ i) r
/-- What Uint answers, and how the reader stands behind it. -/
def uNum (bs : List Nat) (k : Int) : Nat := if k = 0 then (match dec 0 0 bs with | .inl _ => 0 | .inr (n, _) => n) else 0
def uRest (bs : List Nat) (k : Int) : List Nat := if k = 0 then (match dec 0 0 bs with | .inl _ => bs | .inr (_, r) => r) else bs
def uK (bs : List Nat) (k : Int) : Int := if k = 0 then (match dec 0 0 bs with | .inl e => e | .inr _ => 0) else k

theorem drop_at {bs : List Nat} {i x : Nat} (h : bs[i]? = some x) : bs.drop i = x :: bs.drop (i + 1) := by
  obtain ⟨hl, hx⟩ := List.getElem?_eq_some_iff.1 h
  rw [List.drop_eq_getElem_cons hl, hx]
theorem dec_end {bs : List Nat} {i n : Nat} (h : bs.length ≤ i) : dec i n (bs.drop i) = .inl 2 := by rw [List.drop_eq_nil_of_le h]; rfl
theorem dec_bad {bs : List Nat} {i n x : Nat} (h : bs[i]? = some x) (hb : (i = 9 ∧ 1 < x) ∨ (0 < i ∧ x = 0)) : dec i n (bs.drop i) = .inl 3 := by
  rw [drop_at h, dec, if_pos hb]
theorem dec_done {bs : List Nat} {i n x : Nat} (h : bs[i]? = some x) (hb : ¬ ((i = 9 ∧ 1 < x) ∨ (0 < i ∧ x = 0))) (hx : x < 128) : dec i n (bs.drop i) = .inr (n + x * 128 ^ i, bs.drop (i + 1)) := by
  rw [drop_at h, dec, if_neg hb, if_pos hx]
theorem dec_more {bs : List Nat} {i n x : Nat} (h : bs[i]? = some x) (hb : ¬ ((i = 9 ∧ 1 < x) ∨ (0 < i ∧ x = 0))) (hx : ¬ x < 128) : dec i n (bs.drop i) = dec (i + 1) (n + x % 128 * 128 ^ i) (bs.drop (i + 1)) := by
  rw [drop_at h, dec, if_neg hb, if_neg hx]

def UPost (w : World) (t g : Nat) (n : Nat) (bs' : List Nat) (k' : Int) (e : Ending) (w' : World) : Prop :=
  e = .returned (.int .u64 (n : Int)) ∧ Rdr w' t g bs' k' ∧ w.grownBy w' (some g)

set_option maxRecDepth 100000 in
def UJ (w : World) (g : Nat) (bs : List Nat) (a' : Act) (w' : World) : Prop :=
  ∃ (n i : Nat) (us : Nat → Value), a' = { tmps := #[(.pointer (some ⟨g, 0, none⟩)), (undef), (.int .u64 (n : Int)), (.int .i64 (i : Int)), us 4, us 5, us 6, us 7, us 8, us 9, us 10, us 11, us 12, us 13, us 14, us 15, us 16, us 17, us 18, us 19, us 20, us 21, us 22, us 23, us 24, us 25, us 26, us 27, us 28, us 29, us 30, us 31, us 32, us 33, us 34, us 35, us 36, us 37, us 38, us 39, us 40, us 41, us 42, us 43, us 44, us 45, us 46, us 47, us 48, us 49, us 50, us 51, us 52, us 53, us 54, us 55, us 56, us 57, us 58, us 59, us 60, us 61, us 62, us 63, us 64, us 65, us 66, us 67, us 68, us 69, us 70, us 71, us 72, us 73, us 74, us 75, us 76, us 77, us 78, us 79, us 80], defers := [] } ∧ w = w' ∧ Hid (dec i n (bs.drop i) = dec 0 0 bs) ∧ i ≤ 9 ∧ i ≤ bs.length ∧ n < 128 ^ i
set_option maxRecDepth 100000 in
theorem UJ.mk (w : World) (g : Nat) (bs : List Nat) {w' : World} (n i : Nat) {x4 x5 x6 x7 x8 x9 x10 x11 x12 x13 x14 x15 x16 x17 x18 x19 x20 x21 x22 x23 x24 x25 x26 x27 x28 x29 x30 x31 x32 x33 x34 x35 x36 x37 x38 x39 x40 x41 x42 x43 x44 x45 x46 x47 x48 x49 x50 x51 x52 x53 x54 x55 x56 x57 x58 x59 x60 x61 x62 x63 x64 x65 x66 x67 x68 x69 x70 x71 x72 x73 x74 x75 x76 x77 x78 x79 x80 : Value} (h0 : w = w') (h1 : Hid (dec i n (bs.drop i) = dec 0 0 bs)) (h2 : i ≤ 9) (h3 : i ≤ bs.length) (h4 : n < 128 ^ i) :
    UJ w g bs { tmps := #[(.pointer (some ⟨g, 0, none⟩)), (undef), (.int .u64 (n : Int)), (.int .i64 (i : Int)), x4, x5, x6, x7, x8, x9, x10, x11, x12, x13, x14, x15, x16, x17, x18, x19, x20, x21, x22, x23, x24, x25, x26, x27, x28, x29, x30, x31, x32, x33, x34, x35, x36, x37, x38, x39, x40, x41, x42, x43, x44, x45, x46, x47, x48, x49, x50, x51, x52, x53, x54, x55, x56, x57, x58, x59, x60, x61, x62, x63, x64, x65, x66, x67, x68, x69, x70, x71, x72, x73, x74, x75, x76, x77, x78, x79, x80], defers := [] } w' :=
  ⟨n, i, fun k => [undef, undef, undef, undef, x4, x5, x6, x7, x8, x9, x10, x11, x12, x13, x14, x15, x16, x17, x18, x19, x20, x21, x22, x23, x24, x25, x26, x27, x28, x29, x30, x31, x32, x33, x34, x35, x36, x37, x38, x39, x40, x41, x42, x43, x44, x45, x46, x47, x48, x49, x50, x51, x52, x53, x54, x55, x56, x57, x58, x59, x60, x61, x62, x63, x64, x65, x66, x67, x68, x69, x70, x71, x72, x73, x74, x75, x76, x77, x78, x79, x80].getD k undef, rfl, h0, h1, h2, h3, h4⟩

theorem upost_fail {w : World} {g : Nat} {bs : List Nat} {e : Int} (hd : dec 0 0 bs = .inl e) (h : Rdr w 58 g bs 0) :
    UPost w 58 g (uNum bs 0) (uRest bs 0) (uK bs 0) (.returned (.int .u64 0)) (w.setCell ⟨g, 1, none⟩ (.int .i64 e)) := by
  unfold uNum uRest uK
  rw [hd]
  exact ⟨rfl, h.setK e, grown_set _ _ _ _⟩
theorem upost_ok {w : World} {g v i c L c' : Nat} {bs : List Nat} {ad : Addr} {A' : Option Addr} (hd : dec 0 0 bs = .inr (v, bs.drop (i + 1))) (h : Rdr w 58 g bs 0) (hr : Rd w g (some ad) c bs) (hi : i < bs.length)
    (hA : A' = if c = i + 1 then some ad else some (ad.add (i + 1))) (hL : L = bs.length - (i + 1)) (hc : c' = c - (i + 1)) :
    UPost w 58 g (uNum bs 0) (uRest bs 0) (uK bs 0) (.returned (.int .u64 (v : Int))) (w.setCell ⟨g, 0, none⟩ (.slice A' L c')) := by
  unfold uNum uRest uK
  rw [hd]
  have hr' := hr.drop (k := i + 1) (by omega)
  have e1 : L = (bs.drop (i + 1)).length := by rw [List.length_drop]; exact hL
  subst hA hc
  rw [e1]
  refine ⟨rfl, h.setB ?_, grown_set _ _ _ _⟩
  exact hr'
theorem add_lit (ad : Addr) (i : Nat) : (ad.add (i + 1)) = { block := ad.block, off := ad.off + (i + 1) } := by
  unfold Addr.add
  simp

set_option maxRecDepth 100000 in
set_option maxHeartbeats 400000 in
theorem ruint_yes (g : Nat) (bs : List Nat) (w : World) (h : Rdr w 58 g bs 0) (hb : bs.length ≤ 1000000000) :
    Calls Try.prog 13 #[.pointer (some ⟨g, 0, none⟩)] w (UPost w 58 g (uNum bs 0) (uRest bs 0) (uK bs 0)) := by
  have h' := Lib.hid h
  obtain ⟨A, c, hh, hrd, c0, c1, f0, f1⟩ := h.open_
  clear h
  go_enter Try.func13, Try.ntmps13
  go_wp2
  refine wp_scope_via 0 (UJ w g bs) (fun a' _ => 9 - (intOf (a'.tmps.getD 3 undef)).toNat) rfl ?_ ?_
  · rintro a' w' ⟨n, i, us, rfl, rfl, hd, hi9, hil, hn⟩
    by_cases he : i = bs.length
    · have t1 : (((i : Nat) : Int) == ((bs.length : Nat) : Int)) = true := by simp [he]
      have HF : Hid (dec 0 0 bs = .inl 2) := by rw [← hd.out]; exact dec_end (by omega)
      clear he
      go_wp2_with (go_at_call 30; refine (fail_yes g bs 2 _ h'.out).mono ?_; rintro e w' ⟨rfl, rfl⟩)
      show bodyPost Try.prog Try.f13 _ Exit.ret _ _
      go_ret
      exact upost_fail HF.out h'.out
    · have t1 : (((i : Nat) : Int) == ((bs.length : Nat) : Int)) = false := by simp; omega
      have hlt : i < bs.length := by omega
      have hlti : (i : Int) < (bs.length : Int) := by omega
      clear he
      obtain ⟨ad, x, rfl, _, hx, hxb, hc⟩ := hrd.out.at_ hlt
      have HX := Lib.hid hx
      clear hx
      by_cases h9 : i = 9
      · subst h9
        have t1 : ((9 : Int) == ((bs.length : Nat) : Int)) = false := by simp; omega
        have hc : w.cell? { block := ad.block, off := ad.off + 9 } = some (.int .u8 (x : Int)) := by rw [← add_lit ad 8]; exact hc
        by_cases hx1 : 1 < x
        · have t4 : (1 : Int) < (x : Int) := by omega
          have HF : Hid (dec 0 0 bs = .inl 3) := by rw [← hd.out]; exact dec_bad HX.out (by omega)
          go_wp2_with (go_at_call 30; refine (fail_yes g bs 3 _ h'.out).mono ?_; rintro e w' ⟨rfl, rfl⟩)
          show bodyPost Try.prog Try.f13 _ Exit.ret _ _
          go_ret
          exact upost_fail HF.out h'.out
        · have t4 : ¬ (1 : Int) < (x : Int) := by omega
          by_cases hx0 : x = 0
          · have t5 : ((x : Int) == 0) = true := by simp; omega
            have HF : Hid (dec 0 0 bs = .inl 3) := by rw [← hd.out]; exact dec_bad HX.out (by omega)
            go_wp2_with (go_at_call 30; refine (fail_yes g bs 3 _ h'.out).mono ?_; rintro e w' ⟨rfl, rfl⟩)
            show bodyPost Try.prog Try.f13 _ Exit.ret _ _
            go_ret
            exact upost_fail HF.out h'.out
          · have t5 : ((x : Int) == 0) = false := by simp; omega
            have HF : Hid (dec 0 0 bs = .inr (n + x * 128 ^ 9, bs.drop (9 + 1))) := by rw [← hd.out]; exact dec_done HX.out (by omega) (by omega)
            have a1 : bits .and .u8 (x : Int) 128 = 0 := by rw [and80 x hxb, if_pos (by omega)]; rfl
            have a2 : bits .and .u8 (x : Int) 127 = (x : Int) := by rw [and7f x hxb, Nat.mod_eq_of_lt (by omega)]
            obtain ⟨a3, a4⟩ := join n x 9 (by omega) (by omega) (by omega) hn
            generalize n + x * 128 ^ 9 = v at *
            have a3 : bits .or .u64 (n : Int) ((x : Int) * 9223372036854775808) = (v : Int) := by
              rw [← a3]
              congr 1
              have : x = 1 := by omega
              subst this
              rfl
            have HS := Lib.hid (add_lit ad 9)
            clear hn hil
            by_cases hci : c = 10
            · go_wp2
              show bodyPost Try.prog Try.f13 _ Exit.ret _ _
              go_ret
              exact upost_ok (i := 9) HF.out h'.out hrd.out hlt (by rw [if_pos (by omega)]) (by omega) (by omega)
            · go_wp2
              show bodyPost Try.prog Try.f13 _ Exit.ret _ _
              go_ret
              exact upost_ok (i := 9) HF.out h'.out hrd.out hlt (by rw [if_neg hci, HS.out]) (by omega) (by omega)
      · have t2 : ((i : Int) == 9) = false := by simp; omega
        by_cases hi0 : 0 < i
        · have t3 : (0 : Int) < (i : Int) := by omega
          by_cases hx0 : x = 0
          · have t5 : ((x : Int) == 0) = true := by simp; omega
            have HF : Hid (dec 0 0 bs = .inl 3) := by rw [← hd.out]; exact dec_bad HX.out (by omega)
            go_wp2_with (go_at_call 30; refine (fail_yes g bs 3 _ h'.out).mono ?_; rintro e w' ⟨rfl, rfl⟩)
            show bodyPost Try.prog Try.f13 _ Exit.ret _ _
            go_ret
            exact upost_fail HF.out h'.out
          · have t5 : ((x : Int) == 0) = false := by simp; omega
            by_cases hx8 : x < 128
            · skip
              have HF : Hid (dec 0 0 bs = .inr (n + x * 128 ^ i, bs.drop (i + 1))) := by rw [← hd.out]; exact dec_done HX.out (by omega) (by omega)
              have a1 : bits .and .u8 (x : Int) 128 = 0 := by rw [and80 x hxb, if_pos (by omega)]; rfl
              have a2 : bits .and .u8 (x : Int) 127 = (x : Int) := by rw [and7f x hxb, Nat.mod_eq_of_lt (by omega)]
              obtain ⟨a3, a4⟩ := join n x i hi9 (by omega) (by omega) hn
              generalize n + x * 128 ^ i = v at *
              have hs : ad.add (i + 1) = _ := add_lit ad i
              have HS := Lib.hid hs
              clear hs
              by_cases hci : c = i + 1
              · go_wp2
                show bodyPost Try.prog Try.f13 _ Exit.ret _ _
                go_ret
                exact upost_ok HF.out h'.out hrd.out hlt (by rw [if_pos (by omega)]) (by omega) (by omega)
              · go_wp2
                show bodyPost Try.prog Try.f13 _ Exit.ret _ _
                go_ret
                exact upost_ok HF.out h'.out hrd.out hlt (by rw [if_neg hci, HS.out]) (by omega) (by omega)
            · skip
              have HF : Hid (dec (i + 1) (n + x % 128 * 128 ^ i) (bs.drop (i + 1)) = dec 0 0 bs) := by rw [← hd.out]; exact (dec_more HX.out (by omega) (by omega)).symm
              have a1 : bits .and .u8 (x : Int) 128 = 128 := by rw [and80 x hxb, if_neg (by omega)]; rfl
              have a2 : bits .and .u8 (x : Int) 127 = ((x % 128 : Nat) : Int) := and7f x hxb
              generalize hy : x % 128 = y at *
              have hyb : y < 128 := by omega
              clear hy
              obtain ⟨a3, a4⟩ := join n y i hi9 hyb (by omega) hn
              have a5 : n + y * 128 ^ i < 128 ^ (i + 1) := by
                have : y * 128 ^ i ≤ 127 * 128 ^ i := Nat.mul_le_mul_right _ (by omega)
                rw [Nat.pow_succ]; omega
              have A5 := Lib.hid a5
              clear a5
              generalize n + y * 128 ^ i = v at *
              go_wp2
              go_step3
              rw [show (i : Int) + 1 = ((i + 1 : Nat) : Int) from by omega]
              exact ⟨rfl, UJ.mk w g bs v (i + 1) rfl HF (by omega) (by omega) A5.out, by simp [intOf]; omega⟩
        · have t3 : ¬ (0 : Int) < (i : Int) := by omega
          by_cases hx8 : x < 128
          · skip
            have HF : Hid (dec 0 0 bs = .inr (n + x * 128 ^ i, bs.drop (i + 1))) := by rw [← hd.out]; exact dec_done HX.out (by omega) (by omega)
            have a1 : bits .and .u8 (x : Int) 128 = 0 := by rw [and80 x hxb, if_pos (by omega)]; rfl
            have a2 : bits .and .u8 (x : Int) 127 = (x : Int) := by rw [and7f x hxb, Nat.mod_eq_of_lt (by omega)]
            obtain ⟨a3, a4⟩ := join n x i hi9 (by omega) (by omega) hn
            generalize n + x * 128 ^ i = v at *
            have hs : ad.add (i + 1) = _ := add_lit ad i
            have HS := Lib.hid hs
            clear hs
            by_cases hci : c = i + 1
            · go_wp2
              show bodyPost Try.prog Try.f13 _ Exit.ret _ _
              go_ret
              exact upost_ok HF.out h'.out hrd.out hlt (by rw [if_pos (by omega)]) (by omega) (by omega)
            · go_wp2
              show bodyPost Try.prog Try.f13 _ Exit.ret _ _
              go_ret
              exact upost_ok HF.out h'.out hrd.out hlt (by rw [if_neg hci, HS.out]) (by omega) (by omega)
          · skip
            have HF : Hid (dec (i + 1) (n + x % 128 * 128 ^ i) (bs.drop (i + 1)) = dec 0 0 bs) := by rw [← hd.out]; exact (dec_more HX.out (by omega) (by omega)).symm
            have a1 : bits .and .u8 (x : Int) 128 = 128 := by rw [and80 x hxb, if_neg (by omega)]; rfl
            have a2 : bits .and .u8 (x : Int) 127 = ((x % 128 : Nat) : Int) := and7f x hxb
            generalize hy : x % 128 = y at *
            have hyb : y < 128 := by omega
            clear hy
            obtain ⟨a3, a4⟩ := join n y i hi9 hyb (by omega) hn
            have a5 : n + y * 128 ^ i < 128 ^ (i + 1) := by
              have : y * 128 ^ i ≤ 127 * 128 ^ i := Nat.mul_le_mul_right _ (by omega)
              rw [Nat.pow_succ]; omega
            have A5 := Lib.hid a5
            clear a5
            generalize n + y * 128 ^ i = v at *
            go_wp2
            go_step3
            rw [show (i : Int) + 1 = ((i + 1 : Nat) : Int) from by omega]
            exact ⟨rfl, UJ.mk w g bs v (i + 1) rfl HF (by omega) (by omega) A5.out, by simp [intOf]; omega⟩
  · intro pass
    go_wp2_with (go_at_call 35; refine (ready_yes g bs _ h'.out).mono ?_; rintro e w' ⟨rfl, rfl⟩)
    go_step3
    rename_i K hK
    exact hK _ _ (pass.out _ _ (UJ.mk w g bs 0 0 rfl (by simp [Hid]) (by omega) (by omega) (by simp)))
end Go.Proofs.Ytjfpfgogbpiknaa
