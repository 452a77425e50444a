/- Contracts of the reference's reader; no condition. -/
import Derived.Test.YtjfpfgogbpiknaaCodeF
namespace Go.Proofs.Ytjfpfgogbpiknaa
open Go.RowKit
set_option linter.unusedVariables false
set_option linter.unusedSimpArgs false

theorem mfail_yes (g : Nat) (bs : List Nat) (k' : Int) (w : World) (h : Rdr w 45 g bs 0) :
    Calls Try.prog 31 #[.pointer (some ⟨g, 0, none⟩), .int .i64 k'] w fun e w' => e = .returned (.tuple #[]) ∧ w.setCell ⟨g, 1, none⟩ (.int .i64 k') = w' := by
  obtain ⟨A, c, hh, hr, c0, c1, f0, f1⟩ := h.open_
  clear h
  go_enter Try.func31, Try.ntmps31
  go_wp2
  go_end0
  exact ⟨rfl, rfl⟩
theorem mfail_no (g : Nat) (bs : List Nat) (k k' : Int) (w : World) (h : Rdr w 45 g bs k) (hk : k ≠ 0) :
    Calls Try.prog 31 #[.pointer (some ⟨g, 0, none⟩), .int .i64 k'] w fun e w' => e = .returned (.tuple #[]) ∧ w = w' := by
  obtain ⟨A, c, hh, hr, c0, c1, f0, f1⟩ := h.open_
  clear h
  have hk1 : (k == 0) = false := by simpa using hk
  clear hk
  go_enter Try.func31, Try.ntmps31
  go_wp2
  go_end0
  exact ⟨rfl, rfl⟩
theorem mdone_any (g : Nat) (bs : List Nat) (k r : Int) (w : World) (h : Rdr w 45 g bs k) (hr : r = rDone bs k) :
    Calls Try.prog 33 #[.pointer (some ⟨g, 0, none⟩)] w fun e w' => e = .returned (.int .i64 r) ∧ w = w' := by
  obtain ⟨A, c, hh, hrd, c0, c1, f0, f1⟩ := h.open_
  clear h
  subst hr
  unfold rDone
  by_cases hk : k = 0
  · subst hk
    by_cases hl : 0 < bs.length
    · rw [if_pos rfl, if_pos hl]
      have hli : (0 : Int) < (bs.length : Int) := by omega
      clear hl
      go_enter Try.func33, Try.ntmps33
      go_wp2
      go_ret
      exact ⟨rfl, rfl⟩
    · rw [if_pos rfl, if_neg hl]
      have hl0 : bs = [] := List.eq_nil_of_length_eq_zero (by omega)
      subst hl0
      clear hl
      go_enter Try.func33, Try.ntmps33
      go_wp2
      go_ret
      exact ⟨rfl, rfl⟩
  · rw [if_neg hk]
    have hk1 : (k == 0) = false := by simpa using hk
    clear hk
    go_enter Try.func33, Try.ntmps33
    go_wp2
    go_ret
    exact ⟨rfl, rfl⟩
theorem mleft_any (g : Nat) (bs : List Nat) (k : Int) (r : Nat) (w : World) (h : Rdr w 45 g bs k) (hr : r = rLeft bs k) :
    Calls Try.prog 32 #[.pointer (some ⟨g, 0, none⟩)] w fun e w' => e = .returned (.int .i64 (r : Int)) ∧ w = w' := by
  obtain ⟨A, c, hh, hrd, c0, c1, f0, f1⟩ := h.open_
  clear h
  subst hr
  unfold rLeft
  by_cases hk : k = 0
  · subst hk
    rw [if_pos rfl]
    go_enter Try.func32, Try.ntmps32
    go_wp2
    go_ret
    exact ⟨rfl, rfl⟩
  · rw [if_neg hk]
    have hk1 : (k != 0) = true := by simpa using hk
    clear hk
    go_enter Try.func32, Try.ntmps32
    go_wp2
    go_ret
    exact ⟨rfl, rfl⟩

theorem mpost_fail {w : World} {t g : Nat} {bs : List Nat} {e : Int} (hd : dec 0 0 bs = .inl e) (h : Rdr w t g bs 0) :
    UPost w t g (uNum bs 0) (uRest bs 0) (uK bs 0) (.returned (.int .u64 0)) (w.setCell ⟨g, 1, none⟩ (.int .i64 e)) := by
  unfold uNum uRest uK
  rw [hd]
  exact ⟨rfl, h.setK e, grown_set _ _ _ _⟩
theorem mpost_ok {w : World} {t g v i c L c' : Nat} {bs : List Nat} {A A' : Option Addr} (hd : dec 0 0 bs = .inr (v, bs.drop i)) (h : Rdr w t g bs 0) (hr : Rd w g A c bs) (hi : i ≤ bs.length)
    (hA : A' = if c = i then A else A.map (·.add i)) (hL : L = bs.length - i) (hc : c' = c - i) :
    UPost w t g (uNum bs 0) (uRest bs 0) (uK bs 0) (.returned (.int .u64 (v : Int))) (w.setCell ⟨g, 0, none⟩ (.slice A' L c')) := by
  unfold uNum uRest uK
  rw [hd]
  exact ⟨rfl, h.cut hr hi hA hL hc, grown_set _ _ _ _⟩
theorem pow_lt9 {i : Nat} (h : i ≤ 9) : 128 ^ i < 18446744073709551616 := by
  have : 128 ^ i ≤ 128 ^ 9 := Nat.pow_le_pow_right (by decide) h
  omega

theorem msum (n y u i : Nat) (hi : i ≤ 9) (hy : y < 128) (h9 : i = 9 → y ≤ 1) (hn : n < 128 ^ i) (hu : u = 128 ^ i) : IntKind.u64.wrap ((n : Int) + IntKind.u64.wrap ((u : Int) * (y : Int))) = ((n + y * 128 ^ i : Nat) : Int) := by
  have h := (join n y i hi hy h9 hn).2
  subst hu
  rw [← Int.natCast_mul, Nat.mul_comm (128 ^ i) y]
  generalize y * 128 ^ i = p at *
  rw [IntKind.wrap_u64, IntKind.wrap_u64]
  omega
theorem munit (u i : Nat) (hi : i < 9) (hu : u = 128 ^ i) : IntKind.u64.wrap ((u : Int) * 128) = ((128 ^ (i + 1) : Nat) : Int) := by
  have h := pow_lt9 (i := i + 1) (by omega)
  subst hu
  rw [Nat.pow_succ] at h ⊢
  generalize 128 ^ i = p at *
  rw [IntKind.wrap_u64]
  omega
theorem mret {R : Ending → World → Prop} {w : World} {a b : Int} (h : a = b) (hR : R (.returned (.int .u64 b)) w) : R (.returned (.int .u64 a)) w := by rw [h]; exact hR

set_option maxRecDepth 100000 in
set_option maxHeartbeats 2000000 in
theorem muint_yes (g : Nat) (bs : List Nat) (w : World) (h : Rdr w 45 g bs 0) (hb : bs.length ≤ 1000000000) :
    Calls Try.prog 25 #[.pointer (some ⟨g, 0, none⟩)] w (UPost w 45 g (uNum bs 0) (uRest bs 0) (uK bs 0)) := by
  have h' := Lib.hid h
  obtain ⟨A, c, hh, hrd, c0, c1, f0, f1⟩ := h.open_
  clear h
  go_enter Try.func25, Try.ntmps25
  go_wp2
  go_loop [3, 4, 5] (fun vn vu vi => ∃ n i u : Nat, vn = .int .u64 (n : Int) ∧ vu = .int .u64 (u : Int) ∧ vi = .int .i64 (i : Int) ∧ Hid (dec i n (bs.drop i) = dec 0 0 bs) ∧ i ≤ 9 ∧ i ≤ bs.length ∧ n < 128 ^ i ∧ Hid (u = 128 ^ i)) (fun _ _ i => 9 - (intOf i).toNat)
  case atStart => exact ⟨0, 0, 1, rfl, rfl, rfl, by simp [Hid], by omega, by omega, by simp, by simp [Hid]⟩
  case round =>
    obtain ⟨n, i, u, rfl, rfl, rfl, hd, hi9, hil, hn, hu⟩ := hrel
    by_cases he : i < bs.length
    · have hlti : (i : Int) < (bs.length : Int) := by omega
      obtain ⟨ad, x, rfl, _, hx, hxb, hc⟩ := hrd.out.at_ he
      have HX := Lib.hid hx
      clear hx
      by_cases h9 : i = 9
      · subst h9
        have hc : w.cell? { block := ad.block, off := ad.off + 9 } = some (.int .u8 (x : Int)) := by rw [← add_lit ad 8]; exact hc
        by_cases hx1 : 1 < x
        · have t4 : (1 : Int) < (x : Int) := by omega
          have HF : Hid (dec 0 0 bs = .inl 3) := by rw [← hd.out]; exact dec_bad HX.out (by omega)
          go_wp2_with (go_at_call 31; refine (mfail_yes g bs 3 _ h'.out).mono ?_; rintro e w' ⟨rfl, rfl⟩)
          go_ret
          exact mpost_fail HF.out h'.out
        · have t4 : ¬ (1 : Int) < (x : Int) := by omega
          have t5 : (x : Int) < 128 := by omega
          by_cases hx0 : x = 0
          · have t6 : ((x : Int) == 0) = true := by simp; omega
            have HF : Hid (dec 0 0 bs = .inl 3) := by rw [← hd.out]; exact dec_bad HX.out (by omega)
            go_wp2_with (go_at_call 31; refine (mfail_yes g bs 3 _ h'.out).mono ?_; rintro e w' ⟨rfl, rfl⟩)
            go_ret
            exact mpost_fail HF.out h'.out
          · have t6 : ((x : Int) == 0) = false := by simp; omega
            have HF : Hid (dec 0 0 bs = .inr (n + x * 128 ^ 9, bs.drop 10)) := by rw [← hd.out]; exact dec_done HX.out (by omega) (by omega)
            have e1 : (x : Int) % 128 = (x : Int) := by omega
            have EV := Lib.hid (msum n x u 9 hi9 (by omega) (by omega) hn hu.out)
            by_cases hci : c = 10
            · go_wp2
              go_ret
              refine mret EV.out ?_
              exact mpost_ok (i := 10) HF.out h'.out hrd.out (by omega) (by rw [if_pos hci]) (by omega) (by omega)
            · go_wp2
              go_ret
              refine mret EV.out ?_
              exact mpost_ok (i := 10) HF.out h'.out hrd.out (by omega) (by rw [if_neg hci, Option.map_some, ← add_lit ad 9]) (by omega) (by omega)
      · have t2 : ((i : Int) == 9) = false := by simp; omega
        by_cases hx8 : x < 128
        · have t3 : (x : Int) < 128 := by omega
          by_cases hx0 : x = 0
          · have t6 : ((x : Int) == 0) = true := by simp; omega
            by_cases hi0 : 0 < i
            · have t7 : (0 : Int) < (i : Int) := by omega
              have HF : Hid (dec 0 0 bs = .inl 3) := by rw [← hd.out]; exact dec_bad HX.out (by omega)
              go_wp2_with (go_at_call 31; refine (mfail_yes g bs 3 _ h'.out).mono ?_; rintro e w' ⟨rfl, rfl⟩)
              go_ret
              exact mpost_fail HF.out h'.out
            · have t7 : ¬ (0 : Int) < (i : Int) := by omega
              have HF : Hid (dec 0 0 bs = .inr (n + x * 128 ^ i, bs.drop (i + 1))) := by rw [← hd.out]; exact dec_done HX.out (by omega) (by omega)
              have e1 : (x : Int) % 128 = (x : Int) := by omega
              have EV : Hid (IntKind.u64.wrap (n : Int) = ((n + x * 128 ^ i : Nat) : Int)) := by
                show _ = _
                have h0 := pow_lt9 hi9
                rw [hx0, Nat.zero_mul, IntKind.wrap_u64]
                omega
              by_cases hci : c = i + 1
              · go_wp2
                go_ret
                refine mret EV.out ?_
                exact mpost_ok (i := i + 1) HF.out h'.out hrd.out (by omega) (by rw [if_pos hci]) (by omega) (by omega)
              · go_wp2
                go_ret
                refine mret EV.out ?_
                exact mpost_ok (i := i + 1) HF.out h'.out hrd.out (by omega) (by rw [if_neg hci, Option.map_some, add_lit]) (by omega) (by omega)
          · have t6 : ((x : Int) == 0) = false := by simp; omega
            have HF : Hid (dec 0 0 bs = .inr (n + x * 128 ^ i, bs.drop (i + 1))) := by rw [← hd.out]; exact dec_done HX.out (by omega) (by omega)
            have e1 : (x : Int) % 128 = (x : Int) := by omega
            have EV := Lib.hid (msum n x u i hi9 (by omega) (by omega) hn hu.out)
            by_cases hci : c = i + 1
            · go_wp2
              go_ret
              refine mret EV.out ?_
              exact mpost_ok (i := i + 1) HF.out h'.out hrd.out (by omega) (by rw [if_pos hci]) (by omega) (by omega)
            · go_wp2
              go_ret
              refine mret EV.out ?_
              exact mpost_ok (i := i + 1) HF.out h'.out hrd.out (by omega) (by rw [if_neg hci, Option.map_some, add_lit]) (by omega) (by omega)
        · have t3 : ¬ (x : Int) < 128 := by omega
          have HF : Hid (dec (i + 1) (n + x % 128 * 128 ^ i) (bs.drop (i + 1)) = dec 0 0 bs) := by rw [← hd.out]; exact (dec_more HX.out (by omega) (by omega)).symm
          obtain ⟨y, e1, hy, hyx⟩ : ∃ y : Nat, (x : Int) % 128 = (y : Int) ∧ y < 128 ∧ Hid (x % 128 = y) := ⟨x % 128, by omega, by omega, rfl⟩
          rw [hyx.out] at HF
          have EV := Lib.hid (msum n y u i hi9 hy (by omega) hn hu.out)
          have EU := Lib.hid (munit u i (by omega) hu.out)
          have a5 : n + y * 128 ^ i < 128 ^ (i + 1) := by
            have : y * 128 ^ i ≤ 127 * 128 ^ i := Nat.mul_le_mul_right _ (by omega)
            rw [Nat.pow_succ]; omega
          have A5 := Lib.hid a5
          clear a5
          go_wp2
          refine ⟨⟨n + y * 128 ^ i, i + 1, 128 ^ (i + 1), by rw [EV.out], by rw [EU.out], by go_num, HF, by omega, by omega, A5.out, rfl⟩, by simp [intOf]; omega⟩
    · have hlti : ¬ (i : Int) < (bs.length : Int) := by omega
      have HF : Hid (dec 0 0 bs = .inl 2) := by rw [← hd.out]; exact dec_end (by omega)
      go_wp2_with (go_at_call 31; refine (mfail_yes g bs 2 _ h'.out).mono ?_; rintro e w' ⟨rfl, rfl⟩)
      go_ret
      exact mpost_fail HF.out h'.out

theorem muint_no (g : Nat) (bs : List Nat) (k : Int) (w : World) (h : Rdr w 45 g bs k) (hk : k ≠ 0) :
    Calls Try.prog 25 #[.pointer (some ⟨g, 0, none⟩)] w (UPost w 45 g (uNum bs k) (uRest bs k) (uK bs k)) := by
  have HP : Hid (UPost w 45 g (uNum bs k) (uRest bs k) (uK bs k) (.returned (.int .u64 0)) w) := by
    show UPost _ _ _ _ _ _ _ _
    unfold uNum uRest uK
    rw [if_neg hk, if_neg hk, if_neg hk]
    exact ⟨rfl, h, grown_refl _ _⟩
  generalize uNum bs k = x1 at *
  generalize uRest bs k = x2 at *
  generalize uK bs k = x3 at *
  obtain ⟨A, c, hh, hrd, c0, c1, f0, f1⟩ := h.open_
  clear h
  have hk1 : (k != 0) = true := by simpa using hk
  clear hk
  go_enter Try.func25, Try.ntmps25
  go_wp2
  go_ret
  exact HP.out
theorem muint_any (g : Nat) (bs : List Nat) (k : Int) (w : World) (h : Rdr w 45 g bs k) (hb : bs.length ≤ 1000000000) :
    Calls Try.prog 25 #[.pointer (some ⟨g, 0, none⟩)] w (UPost w 45 g (uNum bs k) (uRest bs k) (uK bs k)) := by
  by_cases hk : k = 0
  · subst hk; exact muint_yes g bs w h hb
  · exact muint_no g bs k w h hk

set_option maxHeartbeats 800000 in
theorem mint_any (g : Nat) (bs : List Nat) (k most : Int) (w : World) (h : Rdr w 45 g bs k) (hb : bs.length ≤ 1000000000) (hx : ∀ x ∈ bs, x < 256) (h1 : -9223372036854775808 ≤ most) (h2 : most ≤ 9223372036854775807) :
    Calls Try.prog 27 #[.pointer (some ⟨g, 0, none⟩), .int .i64 most] w (IPost w 45 g (iNum bs k most) (uRest bs k) (iK bs k most)) := by
  have hf := u_facts (k := k) hx
  have hfl := hf.1
  have hu := Lib.hid (muint_any g bs k w h hb)
  clear h hf hx
  unfold iNum iK
  generalize uNum bs k = n at *
  generalize uRest bs k = bs' at *
  generalize uK bs k = k' at *
  by_cases hk : k' = 0
  · subst hk
    by_cases t1 : most < 0
    · have hm : ¬ (n : Int) ≤ most := by omega
      rw [if_neg (by omega), if_pos rfl, if_neg hm]
      clear hm
      go_enter Try.func27, Try.ntmps27
      go_wp2_with (first | (go_at_call 25; refine hu.out.mono ?_; rintro e w1 ⟨rfl, hr, hg⟩; have HR := Lib.hid hr; have HG := Lib.hid hg; have HR4 := Lib.hid (hr.setK 4); obtain ⟨A, c, hh, hrd, c0, c1, f0, f1⟩ := hr.open_; clear hr hg) | (go_at_call 31; refine (mfail_yes g bs' 4 _ HR.out).mono ?_; rintro e w' ⟨rfl, rfl⟩))
      go_ret
      exact ⟨rfl, HR4.out, grown_tr HG.out (grown_set _ _ _ _)⟩
    · obtain ⟨m, rfl⟩ := Int.eq_ofNat_of_zero_le (show 0 ≤ most by omega)
      by_cases hm : (n : Int) ≤ (m : Int)
      · rw [if_pos ⟨rfl, hm⟩, if_pos rfl, if_pos hm]
        have t2 : ¬ (m : Int) < (n : Int) := by omega
        go_enter Try.func27, Try.ntmps27
        go_wp2_with (first | (go_at_call 25; refine hu.out.mono ?_; rintro e w1 ⟨rfl, hr, hg⟩; have HR := Lib.hid hr; have HG := Lib.hid hg; obtain ⟨A, c, hh, hrd, c0, c1, f0, f1⟩ := hr.open_; clear hr hg) | (go_at_call 31; refine (mfail_yes g bs' 4 _ HR.out).mono ?_; rintro e w' ⟨rfl, rfl⟩))
        go_ret
        exact ⟨rfl, HR.out, HG.out⟩
      · rw [if_neg (by omega), if_pos rfl, if_neg hm]
        have t2 : (m : Int) < (n : Int) := by omega
        clear hm
        go_enter Try.func27, Try.ntmps27
        go_wp2_with (first | (go_at_call 25; refine hu.out.mono ?_; rintro e w1 ⟨rfl, hr, hg⟩; have HR := Lib.hid hr; have HG := Lib.hid hg; have HR4 := Lib.hid (hr.setK 4); obtain ⟨A, c, hh, hrd, c0, c1, f0, f1⟩ := hr.open_; clear hr hg) | (go_at_call 31; refine (mfail_yes g bs' 4 _ HR.out).mono ?_; rintro e w' ⟨rfl, rfl⟩))
        go_ret
        exact ⟨rfl, HR4.out, grown_tr HG.out (grown_set _ _ _ _)⟩
  · rw [if_neg (by simp [hk]), if_neg hk]
    have t1 : (k' == 0) = false := by simpa using hk
    have t2 : (k' != 0) = true := by simpa using hk
    clear hk
    go_enter Try.func27, Try.ntmps27
    go_wp2_with (first | (go_at_call 25; refine hu.out.mono ?_; rintro e w1 ⟨rfl, hr, hg⟩; have HR := Lib.hid hr; have HG := Lib.hid hg; obtain ⟨A, c, hh, hrd, c0, c1, f0, f1⟩ := hr.open_; clear hr hg))
    go_ret
    exact ⟨rfl, HR.out, HG.out⟩

set_option maxHeartbeats 400000 in
theorem mbool_any (g : Nat) (bs : List Nat) (k : Int) (w : World) (h : Rdr w 45 g bs k) (hb : bs.length ≤ 1000000000) :
    Calls Try.prog 29 #[.pointer (some ⟨g, 0, none⟩)] w (BPost w 45 g (bVal bs k) (bRest bs k) (bK bs k)) := by
  have h' := Lib.hid h
  unfold bVal bRest bK
  obtain ⟨A, c, hh, hrd, c0, c1, f0, f1⟩ := h.open_
  clear h
  by_cases hk : k = 0
  · subst hk
    rw [if_pos rfl, if_pos rfl, if_pos rfl]
    cases bs with
    | nil =>
      go_enter Try.func29, Try.ntmps29
      go_wp2_with (first | (go_at_call 31; refine (mfail_yes g [] 2 _ h'.out).mono ?_; rintro e w' ⟨rfl, rfl⟩))
      go_ret
      exact ⟨rfl, h'.out.setK 2, grown_set _ _ _ _⟩
    | cons x r =>
      obtain ⟨ad, y, rfl, _, hy, hyb, hc⟩ := hrd.out.at_ (k := 0) (by simp)
      injection hy with hy
      subst hy
      have hc : w.cell? ad = some (.int .u8 (x : Int)) := hc
      generalize hl : (x :: r).length = L at *
      have hL : 1 ≤ L := by rw [← hl]; simp
      have hL0 : ((L : Int) == 0) = false := by simp; omega
      have HL := Lib.hid hl
      clear hl
      by_cases hx1 : 1 < x
      · simp only [if_pos hx1]
        have t1 : (1 : Int) < (x : Int) := by omega
        have e1 : (x == 1) = false := by simp; omega
        simp only [e1]
        clear e1
        go_enter Try.func29, Try.ntmps29
        go_wp2_with (first | (go_at_call 31; refine (mfail_yes g (x :: r) 3 _ h'.out).mono ?_; rintro e w' ⟨rfl, rfl⟩))
        go_ret
        exact ⟨rfl, h'.out.setK 3, grown_set _ _ _ _⟩
      · simp only [if_neg hx1]
        have t1 : ¬ (1 : Int) < (x : Int) := by omega
        by_cases hcap : c = 1
        · go_enter Try.func29, Try.ntmps29
          go_wp2
          go_ret
          have hl := HL.out
          exact ⟨bool_cast x, h'.out.cut (i := 1) hrd.out (by simp) (by rw [if_pos hcap]) (by omega) (by omega), grown_set _ _ _ _⟩
        · go_enter Try.func29, Try.ntmps29
          go_wp2
          go_ret
          have hl := HL.out
          exact ⟨bool_cast x, h'.out.cut (i := 1) hrd.out (by simp) (by rw [if_neg hcap, Option.map_some, add_lit ad 0]) (by omega) (by omega), grown_set _ _ _ _⟩
  · rw [if_neg hk, if_neg hk, if_neg hk]
    have hk1 : (k != 0) = true := by simpa using hk
    clear hk
    go_enter Try.func29, Try.ntmps29
    go_wp2
    go_ret
    exact ⟨rfl, h'.out, grown_refl _ _⟩

/-! ### Bytes -/
def MPost (w : World) (t g : Nat) (xs : List Nat) (bs' : List Nat) (k' : Int) (e : Ending) (w' : World) : Prop :=
  ∃ A c zs, e = .returned (.slice A zs.length c) ∧ Hid (zs = xs) ∧ Rd w' g A c zs ∧ Rdr w' t g bs' k' ∧ w.grownBy w' (some g)

set_option maxHeartbeats 800000 in
theorem mbytes_any (g : Nat) (bs : List Nat) (k most : Int) (w : World) (h : Rdr w 45 g bs k) (hb : bs.length ≤ 900000) (hx : ∀ x ∈ bs, x < 256) (h1 : -9223372036854775808 ≤ most) (h2 : most ≤ 9223372036854775807) :
    Calls Try.prog 28 #[.pointer (some ⟨g, 0, none⟩), .int .i64 most] w (MPost w 45 g (yVal bs k most) (yRest bs k most) (yK bs k most)) := by
  have hf := u_facts (k := k) hx
  have hfl := hf.2
  have hu := Lib.hid (mint_any g bs k most w h (by omega) hx h1 h2)
  clear h hf hx
  unfold yVal yRest yK
  generalize iNum bs k most = n at *
  generalize uRest bs k = bs' at *
  generalize iK bs k most = k' at *
  by_cases hk : k' = 0
  · subst hk
    by_cases hm : n ≤ bs'.length
    · rw [if_pos ⟨rfl, hm⟩, if_pos rfl, if_pos hm, if_pos ⟨rfl, hm⟩]
      obtain ⟨xs, hxs, hn⟩ : ∃ xs, Hid (xs = bs'.take n) ∧ n = xs.length := ⟨bs'.take n, rfl, by rw [List.length_take]; omega⟩
      subst hn
      have hxs2 := hxs.out
      have hli : ¬ (bs'.length : Int) < (xs.length : Int) := by omega
      rw [← hxs2]
      clear hxs2
      go_enter Try.func28, Try.ntmps28
      go_wp2_with fail
      refine hu.out.mono ?_
      rintro e w1 ⟨rfl, hr, hg⟩
      have HR := Lib.hid hr
      have HG := Lib.hid hg
      clear hg
      obtain ⟨A, c, hh, hrd, c0, c1, f0, f1⟩ := hr.open_
      clear hr
      have hcap : (xs.length : Int) ≤ (c : Int) := by (have := hrd.out.le; omega)
      have hrd2 := Lib.hid (hrd.out.take xs.length)
      rw [← hxs.out] at hrd2
      by_cases hcc : c = xs.length
      · go_wp2
        go_ret
        exact ⟨A, _, xs, rfl, rfl, by rw [← hcc]; exact hrd2.out.setCell (Nat.le_refl _) _, HR.out.cut hrd.out hm (by rw [if_pos hcc]) (by omega) (by omega), grown_tr HG.out (grown_set _ _ _ _)⟩
      · go_wp2
        go_ret
        exact ⟨A, c, xs, rfl, rfl, hrd2.out.setCell (Nat.le_refl _) _, HR.out.cut hrd.out hm (by rw [if_neg hcc]) (by omega) (by omega), grown_tr HG.out (grown_set _ _ _ _)⟩
    · rw [if_neg (by simp [hm]), if_pos rfl, if_neg hm, if_neg (by simp [hm])]
      have hli : (bs'.length : Int) < (n : Int) := by omega
      clear hm
      go_enter Try.func28, Try.ntmps28
      go_wp2_with (first | (go_at_call 27; refine hu.out.mono ?_; rintro e w1 ⟨rfl, hr, hg⟩; have HR := Lib.hid hr; have HG := Lib.hid hg; have HR4 := Lib.hid (hr.setK 2); obtain ⟨A, c, hh, hrd, c0, c1, f0, f1⟩ := hr.open_; clear hr hg) | (go_at_call 31; refine (mfail_yes g bs' 2 _ HR.out).mono ?_; rintro e w' ⟨rfl, rfl⟩))
      go_ret
      exact ⟨none, 0, [], rfl, rfl, Rd.nil_ _ _, HR4.out, grown_tr HG.out (grown_set _ _ _ _)⟩
  · rw [if_neg (by simp [hk]), if_neg hk, if_neg (by simp [hk])]
    have t1 : (k' == 0) = false := by simpa using hk
    have t2 : (k' != 0) = true := by simpa using hk
    clear hk
    go_enter Try.func28, Try.ntmps28
    go_wp2_with (first | (go_at_call 27; refine hu.out.mono ?_; rintro e w1 ⟨rfl, hr, hg⟩; have HR := Lib.hid hr; have HG := Lib.hid hg; obtain ⟨A, c, hh, hrd, c0, c1, f0, f1⟩ := hr.open_; clear hr hg))
    go_ret
    exact ⟨none, 0, [], rfl, rfl, Rd.nil_ _ _, HR.out, HG.out⟩
end Go.Proofs.Ytjfpfgogbpiknaa
