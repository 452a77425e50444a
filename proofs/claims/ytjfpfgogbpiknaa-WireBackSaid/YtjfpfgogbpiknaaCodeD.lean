/- Contracts of wire.Reader's Uint (of any reader), Int, Bytes, Bool; no condition. -/
import Derived.Test.YtjfpfgogbpiknaaCodeC
import Derived.Test.YtjfpfgogbpiknaaShelf
import Derived.Lib.ItoaNum
namespace Go.Proofs.Ytjfpfgogbpiknaa
open Go.RowKit
set_option linter.unusedVariables false
set_option linter.unusedSimpArgs false

theorem bitLen_big (n : Nat) (hn : n < 18446744073709551616) : 63 < Lib.bitLen n ↔ 9223372036854775808 ≤ n := by
  by_cases h0 : n = 0
  · subst h0; decide
  · have := Lib.bitLenAux_bounds 64 n (by omega) h0
    unfold Lib.bitLen
    generalize Lib.bitLenAux 64 n = r at *
    obtain ⟨h1, h2, h3⟩ := this
    constructor
    · intro hr
      have : 2 ^ 63 ≤ 2 ^ (r - 1) := Nat.pow_le_pow_right (by decide) (by omega)
      omega
    · intro hr
      rcases Nat.lt_or_ge 63 r with h | h
      · exact h
      · have : 2 ^ r ≤ 2 ^ 63 := Nat.pow_le_pow_right (by decide) h
        omega
def LenPost (w : World) (n : Nat) (e : Ending) (w' : World) : Prop := ∃ r : Nat, e = .returned (.int .i64 (r : Int)) ∧ w = w' ∧ (63 < r ↔ 9223372036854775808 ≤ n)
theorem len64_any (n : Nat) (w : World) (hn : n < 18446744073709551616) : Calls Try.prog 36 #[.int .u64 (n : Int)] w (LenPost w n) :=
  (Try.bits_Len64 (n : Int) w (by omega) (by omega)).mono fun e w' h => ⟨Lib.bitLen n, by rw [h.1]; rfl, h.2.symm, bitLen_big n hn⟩

theorem grown_refl (w : World) (row : Option Nat) : w.grownBy w row := World.grownBy.refl w row
theorem ruint_no (g : Nat) (bs : List Nat) (k : Int) (w : World) (h : Rdr w 58 g bs k) (hk : k ≠ 0) :
    Calls Try.prog 13 #[.pointer (some ⟨g, 0, none⟩)] w (UPost w 58 g (uNum bs k) (uRest bs k) (uK bs k)) := by
  have h' := Lib.hid h
  have hk' := Lib.hid hk
  clear h hk
  have HP : Hid (UPost w 58 g (uNum bs k) (uRest bs k) (uK bs k) (.returned (.int .u64 0)) w) := by
    show UPost _ _ _ _ _ _ _ _
    unfold uNum uRest uK
    rw [if_neg hk'.out, if_neg hk'.out, if_neg hk'.out]
    exact ⟨rfl, h'.out, grown_refl _ _⟩
  generalize uNum bs k = x1 at *
  generalize uRest bs k = x2 at *
  generalize uK bs k = x3 at *
  go_enter Try.func13, Try.ntmps13
  go_wp2
  refine wp_scope_via 0 (fun _ _ => False) (fun _ _ => 0) rfl (fun _ _ h => h.elim) ?_
  intro _
  go_wp2_with (go_at_call 35; refine (ready_no g bs k _ h'.out hk'.out).mono ?_; rintro e w' ⟨rfl, rfl⟩)
  show bodyPost Try.prog Try.f13 _ Exit.ret _ _
  go_ret
  exact HP.out
theorem ruint_nil (w : World) : Calls Try.prog 13 #[.pointer none] w fun e w' => e = .returned (.int .u64 0) ∧ w = w' := by
  go_enter Try.func13, Try.ntmps13
  go_wp2
  refine wp_scope_via 0 (fun _ _ => False) (fun _ _ => 0) rfl (fun _ _ h => h.elim) ?_
  intro _
  go_wp2_with (go_at_call 35; refine (ready_nil _).mono ?_; rintro e w' ⟨rfl, rfl⟩)
  simp only [Exit.jump]
  go_ret
  exact ⟨rfl, rfl⟩
theorem ruint_any (g : Nat) (bs : List Nat) (k : Int) (w : World) (h : Rdr w 58 g bs k) (hb : bs.length ≤ 1000000000) :
    Calls Try.prog 13 #[.pointer (some ⟨g, 0, none⟩)] w (UPost w 58 g (uNum bs k) (uRest bs k) (uK bs k)) := by
  by_cases hk : k = 0
  · subst hk; exact ruint_yes g bs w h hb
  · exact ruint_no g bs k w h hk
theorem dec_lt (f : Nat) : ∀ (bs : List Nat) (i n : Nat), (∀ x ∈ bs, x < 256) → n < 128 ^ i → i ≤ 9 → 9 - i < f → match dec i n bs with | .inl _ => True | .inr (v, r) => v < 18446744073709551616 ∧ r.length ≤ bs.length ∧ ∀ x ∈ r, x < 256 := by
  induction f with
  | zero => intro bs i n _ _ _ hf; omega
  | succ f ih =>
    intro bs i n hx hn hi hf
    cases bs with
    | nil => simp [dec]
    | cons x r =>
      rw [dec]
      by_cases hb : (i = 9 ∧ 1 < x) ∨ (0 < i ∧ x = 0)
      · rw [if_pos hb]; trivial
      · rw [if_neg hb]
        by_cases h8 : x < 128
        · rw [if_pos h8]
          exact ⟨(join n x i hi h8 (by omega) hn).2, by simp, fun y hy => hx y (List.mem_cons_of_mem _ hy)⟩
        · rw [if_neg h8]
          have hx2 := hx x (by simp)
          have a5 : n + x % 128 * 128 ^ i < 128 ^ (i + 1) := by
            have : x % 128 * 128 ^ i ≤ 127 * 128 ^ i := Nat.mul_le_mul_right _ (by omega)
            rw [Nat.pow_succ]; omega
          have := ih r (i + 1) (n + x % 128 * 128 ^ i) (fun y hy => hx y (List.mem_cons_of_mem _ hy)) a5 (by omega) (by omega)
          split at this
          · simp_all
          · simp_all; omega
theorem u_facts {bs : List Nat} {k : Int} (hx : ∀ x ∈ bs, x < 256) : uNum bs k < 18446744073709551616 ∧ (uRest bs k).length ≤ bs.length := by
  have := dec_lt 10 bs 0 0 hx (by omega) (by omega) (by omega)
  unfold uNum uRest
  split
  · split at this
    · simp_all
    · simp_all
  · simp

/-! ### Int -/
def iNum (bs : List Nat) (k most : Int) : Nat := if uK bs k = 0 ∧ (uNum bs k : Int) ≤ most then uNum bs k else 0
def iK (bs : List Nat) (k most : Int) : Int := if uK bs k = 0 then (if (uNum bs k : Int) ≤ most then 0 else 4) else uK bs k
def IPost (w : World) (t g : Nat) (n : Nat) (bs' : List Nat) (k' : Int) (e : Ending) (w' : World) : Prop :=
  e = .returned (.int .i64 (n : Int)) ∧ Rdr w' t g bs' k' ∧ w.grownBy w' (some g)
theorem grown_tr {a b c : World} {row : Option Nat} (h : a.grownBy b row) (k : b.grownBy c row) : a.grownBy c row := World.grownBy.trans h k

set_option maxHeartbeats 400000 in
theorem rint_any (g : Nat) (bs : List Nat) (k most : Int) (w : World) (h : Rdr w 58 g bs k) (hb : bs.length ≤ 1000000000) (hx : ∀ x ∈ bs, x < 256) (h1 : -9223372036854775808 ≤ most) (h2 : most ≤ 9223372036854775807) :
    Calls Try.prog 26 #[.pointer (some ⟨g, 0, none⟩), .int .i64 most] w (IPost w 58 g (iNum bs k most) (uRest bs k) (iK bs k most)) := by
  have h' := Lib.hid h
  have hf := u_facts (k := k) hx
  have hfl := hf.1
  have hu := Lib.hid (ruint_any g bs k w h hb)
  clear h hf hx
  unfold iNum iK
  generalize uNum bs k = n at *
  generalize uRest bs k = bs' at *
  generalize uK bs k = k' at *
  by_cases hk : k' = 0
  · subst hk
    by_cases hm : (n : Int) ≤ most
    · rw [if_pos ⟨rfl, hm⟩, if_pos rfl, if_pos hm]
      have t1 : ¬ most < 0 := by omega
      have t2 : ¬ most < (n : Int) := by omega
      have t3 : ¬ 9223372036854775808 ≤ n := by omega
      go_enter Try.func26, Try.ntmps26
      go_wp2_with (first | (go_at_call 13; refine hu.out.mono ?_; rintro e w1 ⟨rfl, hr, hg⟩; have HR := Lib.hid hr; have HG := Lib.hid hg; clear hr hg) | (go_at_call 35; refine (ready_yes g bs' _ HR.out).mono ?_; rintro e w' ⟨rfl, rfl⟩) | (go_at_call 36; refine (len64_any n _ hfl).mono ?_; rintro e w' ⟨r, rfl, rfl, hr⟩; have hr : ¬ (63 : Int) < (r : Int) := by omega))
      go_ret
      exact ⟨rfl, HR.out, HG.out⟩
    · rw [if_neg (by omega), if_pos rfl, if_neg hm]
      by_cases t1 : most < 0
      · clear hm
        go_enter Try.func26, Try.ntmps26
        go_wp2_with (first | (go_at_call 13; refine hu.out.mono ?_; rintro e w1 ⟨rfl, hr, hg⟩; have HR := Lib.hid hr; have HG := Lib.hid hg; clear hr hg) | (go_at_call 35; refine (ready_yes g bs' _ HR.out).mono ?_; rintro e w' ⟨rfl, rfl⟩) | (go_at_call 30; refine (fail_yes g bs' 4 _ HR.out).mono ?_; rintro e w' ⟨rfl, rfl⟩))
        go_ret
        exact ⟨rfl, HR.out.setK 4, grown_tr HG.out (grown_set _ _ _ _)⟩
      · by_cases t3 : 9223372036854775808 ≤ n
        · clear hm
          go_enter Try.func26, Try.ntmps26
          go_wp2_with (first | (go_at_call 13; refine hu.out.mono ?_; rintro e w1 ⟨rfl, hr, hg⟩; have HR := Lib.hid hr; have HG := Lib.hid hg; clear hr hg) | (go_at_call 35; refine (ready_yes g bs' _ HR.out).mono ?_; rintro e w' ⟨rfl, rfl⟩) | (go_at_call 36; refine (len64_any n _ hfl).mono ?_; rintro e w' ⟨r, rfl, rfl, hr⟩; have hr : (63 : Int) < (r : Int) := by omega) | (go_at_call 30; refine (fail_yes g bs' 4 _ HR.out).mono ?_; rintro e w' ⟨rfl, rfl⟩))
          go_ret
          exact ⟨rfl, HR.out.setK 4, grown_tr HG.out (grown_set _ _ _ _)⟩
        · have t2 : most < (n : Int) := by omega
          clear hm
          go_enter Try.func26, Try.ntmps26
          go_wp2_with (first | (go_at_call 13; refine hu.out.mono ?_; rintro e w1 ⟨rfl, hr, hg⟩; have HR := Lib.hid hr; have HG := Lib.hid hg; clear hr hg) | (go_at_call 35; refine (ready_yes g bs' _ HR.out).mono ?_; rintro e w' ⟨rfl, rfl⟩) | (go_at_call 36; refine (len64_any n _ hfl).mono ?_; rintro e w' ⟨r, rfl, rfl, hr⟩; have hr : ¬ (63 : Int) < (r : Int) := by omega) | (go_at_call 30; refine (fail_yes g bs' 4 _ HR.out).mono ?_; rintro e w' ⟨rfl, rfl⟩))
          go_ret
          exact ⟨rfl, HR.out.setK 4, grown_tr HG.out (grown_set _ _ _ _)⟩
  · rw [if_neg (by simp [hk]), if_neg hk]
    have hk' := Lib.hid hk
    clear hk
    go_enter Try.func26, Try.ntmps26
    go_wp2_with (first | (go_at_call 13; refine hu.out.mono ?_; rintro e w1 ⟨rfl, hr, hg⟩; have HR := Lib.hid hr; have HG := Lib.hid hg; clear hr hg) | (go_at_call 35; refine (ready_no g bs' k' _ HR.out hk'.out).mono ?_; rintro e w' ⟨rfl, rfl⟩))
    go_ret
    exact ⟨rfl, HR.out, HG.out⟩
theorem rint_nil (most : Int) (w : World) : Calls Try.prog 26 #[.pointer none, .int .i64 most] w fun e w' => e = .returned (.int .i64 0) ∧ w = w' := by
  go_enter Try.func26, Try.ntmps26
  go_wp2_with (first | (go_at_call 13; refine (ruint_nil _).mono ?_; rintro e w' ⟨rfl, rfl⟩) | (go_at_call 35; refine (ready_nil _).mono ?_; rintro e w' ⟨rfl, rfl⟩))
  go_ret
  exact ⟨rfl, rfl⟩

theorem Rdr.cut {w : World} {t g : Nat} {bs : List Nat} {k : Int} (h : Rdr w t g bs k) {A A' : Option Addr} {c L c' : Nat} (hr : Rd w g A c bs) {i : Nat} (hi : i ≤ bs.length)
    (hA : A' = if c = i then A else A.map (·.add i)) (hL : L = bs.length - i) (hc : c' = c - i) : Rdr (w.setCell ⟨g, 0, none⟩ (.slice A' L c')) t g (bs.drop i) k := by
  have e1 : L = (bs.drop i).length := by rw [List.length_drop]; exact hL
  subst hA hc
  rw [e1]
  exact h.setB (hr.drop hi)
theorem bool_cast (x : Nat) : Ending.returned (.bool ((x : Int) == 1)) = .returned (.bool (x == 1)) := by
  have : ((x : Int) == 1) = (x == 1) := by rw [Bool.eq_iff_iff]; simp; omega
  rw [this]

/-! ### Bool -/
def bVal (bs : List Nat) (k : Int) : Bool := if k = 0 then (match bs with | [] => false | x :: _ => x == 1) else false
def bRest (bs : List Nat) (k : Int) : List Nat := if k = 0 then (match bs with | [] => bs | x :: r => if 1 < x then bs else r) else bs
def bK (bs : List Nat) (k : Int) : Int := if k = 0 then (match bs with | [] => 2 | x :: _ => if 1 < x then 3 else 0) else k
def BPost (w : World) (t g : Nat) (b : Bool) (bs' : List Nat) (k' : Int) (e : Ending) (w' : World) : Prop :=
  e = .returned (.bool b) ∧ Rdr w' t g bs' k' ∧ w.grownBy w' (some g)
set_option maxHeartbeats 400000 in
theorem rbool_any (g : Nat) (bs : List Nat) (k : Int) (w : World) (h : Rdr w 58 g bs k) (hb : bs.length ≤ 1000000000) :
    Calls Try.prog 24 #[.pointer (some ⟨g, 0, none⟩)] w (BPost w 58 g (bVal bs k) (bRest bs k) (bK bs k)) := by
  have h' := Lib.hid h
  unfold bVal bRest bK
  by_cases hk : k = 0
  · subst hk
    rw [if_pos rfl, if_pos rfl, if_pos rfl]
    obtain ⟨A, c, hh, hrd, c0, c1, f0, f1⟩ := h.open_
    clear h
    cases bs with
    | nil =>
      go_enter Try.func24, Try.ntmps24
      go_wp2_with (first | (go_at_call 35; refine (ready_yes g [] _ h'.out).mono ?_; rintro e w' ⟨rfl, rfl⟩) | (go_at_call 30; refine (fail_yes g [] 2 _ h'.out).mono ?_; rintro e w' ⟨rfl, rfl⟩))
      go_ret
      exact ⟨rfl, h'.out.setK 2, grown_set _ _ _ _⟩
    | cons x r =>
      obtain ⟨ad, y, rfl, _, hy, hyb, hc⟩ := hrd.out.at_ (k := 0) (by simp)
      injection hy with hy
      subst hy
      have hc : w.cell? ad = some (.int .u8 (x : Int)) := hc
      generalize hl : (x :: r).length = L at *
      have hL : 1 ≤ L := by rw [← hl]; simp
      have hL0 : ((L : Int) == 0) = false := by simp; omega
      have HL := Lib.hid hl
      clear hl
      by_cases hx1 : 1 < x
      · simp only [if_pos hx1]
        have t1 : (1 : Int) < (x : Int) := by omega
        have e1 : (x == 1) = false := by simp; omega
        simp only [e1]
        clear e1
        go_enter Try.func24, Try.ntmps24
        go_wp2_with (first | (go_at_call 35; refine (ready_yes g (x :: r) _ h'.out).mono ?_; rintro e w' ⟨rfl, rfl⟩) | (go_at_call 30; refine (fail_yes g (x :: r) 3 _ h'.out).mono ?_; rintro e w' ⟨rfl, rfl⟩))
        go_ret
        exact ⟨rfl, h'.out.setK 3, grown_set _ _ _ _⟩
      · simp only [if_neg hx1]
        have t1 : ¬ (1 : Int) < (x : Int) := by omega
        by_cases hcap : c = 1
        · go_enter Try.func24, Try.ntmps24
          go_wp2_with (first | (go_at_call 35; refine (ready_yes g (x :: r) _ h'.out).mono ?_; rintro e w' ⟨rfl, rfl⟩))
          go_ret
          have hl := HL.out
          exact ⟨bool_cast x, h'.out.cut (i := 1) hrd.out (by simp) (by rw [if_pos hcap]) (by omega) (by omega), grown_set _ _ _ _⟩
        · go_enter Try.func24, Try.ntmps24
          go_wp2_with (first | (go_at_call 35; refine (ready_yes g (x :: r) _ h'.out).mono ?_; rintro e w' ⟨rfl, rfl⟩))
          go_ret
          have hl := HL.out
          exact ⟨bool_cast x, h'.out.cut (i := 1) hrd.out (by simp) (by rw [if_neg hcap, Option.map_some, add_lit ad 0]) (by omega) (by omega), grown_set _ _ _ _⟩
  · rw [if_neg hk, if_neg hk, if_neg hk]
    have hk' := Lib.hid hk
    clear hk h
    go_enter Try.func24, Try.ntmps24
    go_wp2_with (go_at_call 35; refine (ready_no g bs k _ h'.out hk'.out).mono ?_; rintro e w' ⟨rfl, rfl⟩)
    go_ret
    exact ⟨rfl, h'.out, grown_refl _ _⟩
theorem rbool_nil (w : World) : Calls Try.prog 24 #[.pointer none] w fun e w' => e = .returned (.bool false) ∧ w = w' := by
  go_enter Try.func24, Try.ntmps24
  go_wp2_with (go_at_call 35; refine (ready_nil _).mono ?_; rintro e w' ⟨rfl, rfl⟩)
  go_ret
  exact ⟨rfl, rfl⟩

/-! ### Bytes -/
def yVal (bs : List Nat) (k most : Int) : List Nat := if iK bs k most = 0 ∧ iNum bs k most ≤ (uRest bs k).length then (uRest bs k).take (iNum bs k most) else []
def yRest (bs : List Nat) (k most : Int) : List Nat := if iK bs k most = 0 ∧ iNum bs k most ≤ (uRest bs k).length then (uRest bs k).drop (iNum bs k most) else uRest bs k
def yK (bs : List Nat) (k most : Int) : Int := if iK bs k most = 0 then (if iNum bs k most ≤ (uRest bs k).length then 0 else 2) else iK bs k most
def YPost (w : World) (t g : Nat) (xs : List Nat) (bs' : List Nat) (k' : Int) (e : Ending) (w' : World) : Prop :=
  ∃ A c zs, e = .returned (.slice A zs.length c) ∧ Hid (zs = xs) ∧ Own w' w.heap.size 5 A c zs ∧ Rdr w' t g bs' k' ∧ w.grownBy w' (some g)
theorem below_grown {w w' : World} (h : Below w.heap.size w w') (row : Option Nat) : w.grownBy w' row := ⟨h.os, h.tape, h.output, h.size, fun i hi _ => h.block i hi⟩

set_option maxHeartbeats 800000 in
theorem rbytes_any (g : Nat) (bs : List Nat) (k most : Int) (w : World) (h : Rdr w 58 g bs k) (hb : bs.length ≤ 900000) (hx : ∀ x ∈ bs, x < 256) (h1 : -9223372036854775808 ≤ most) (h2 : most ≤ 9223372036854775807) :
    Calls Try.prog 23 #[.pointer (some ⟨g, 0, none⟩), .int .i64 most] w (YPost w 58 g (yVal bs k most) (yRest bs k most) (yK bs k most)) := by
  have hf := u_facts (k := k) hx
  have hfl := hf.2
  have hu := Lib.hid (rint_any g bs k most w h (by omega) hx h1 h2)
  clear h hf hx
  unfold yVal yRest yK
  generalize iNum bs k most = n at *
  generalize uRest bs k = bs' at *
  generalize iK bs k most = k' at *
  by_cases hk : k' = 0
  · subst hk
    by_cases hm : n ≤ bs'.length
    · rw [if_pos ⟨rfl, hm⟩, if_pos rfl, if_pos hm, if_pos ⟨rfl, hm⟩]
      obtain ⟨xs, hxs, hn⟩ : ∃ xs, Hid (xs = bs'.take n) ∧ n = xs.length := ⟨bs'.take n, rfl, by rw [List.length_take]; omega⟩
      subst hn
      have hxs2 := hxs.out
      have hli : ¬ (bs'.length : Int) < (xs.length : Int) := by omega
      rw [← hxs2]
      clear hxs2
      go_enter Try.func23, Try.ntmps23
      go_wp2_with (first | (go_at_call 26; refine hu.out.mono ?_; rintro e w1 ⟨rfl, hr, hg⟩; have HR := Lib.hid hr; have HG := Lib.hid hg; clear hg; obtain ⟨A, c, hh, hrd, c0, c1, f0, f1⟩ := hr.open_; clear hr; have hcap : (xs.length : Int) ≤ (c : Int) := by (have := hrd.out.le; omega)) | (go_at_call 35; refine (ready_yes g bs' _ HR.out).mono ?_; rintro e w' ⟨rfl, rfl⟩) | (go_at_call 34; fail))
      have hrd2 : Rd w1 g A c xs := by rw [hxs.out]; exact hrd.out.take _
      have hglt := HR.out.lt
      refine (clone_any A c xs _ g hrd2 (by omega) (by omega)).mono ?_
      rintro e w2 ⟨A2, c2, zs, rfl, hz, ho, hbel⟩
      have c0' : w2.cell? ⟨g, 0, none⟩ = some (.slice A bs'.length c) := (hbel.cell (p := ⟨g, 0, none⟩) hglt).trans c0
      have f0' : w2.frozen? ⟨g, 0, none⟩ = false := (hbel.frozen (p := ⟨g, 0, none⟩) hglt).trans f0
      have HR2 := Lib.hid (HR.out.below hbel hglt)
      have HD2 := Lib.hid (hrd.out.below hbel (by omega))
      have HG2 := Lib.hid (grown_tr HG.out (below_grown hbel _))
      have hsz := HG.out.size
      clear hrd2 hbel c0 f0 c1 f1
      by_cases hcc : c = xs.length
      · go_wp2
        go_ret
        exact ⟨A2, c2, zs, rfl, hz, Own.less ⟨ownsRow_setCell_below ho.1 hglt _, ho.2⟩ hsz, HR2.out.cut HD2.out hm (by rw [if_pos hcc]) (by omega) (by omega), grown_tr HG2.out (grown_set _ _ _ _)⟩
      · go_wp2
        go_ret
        exact ⟨A2, c2, zs, rfl, hz, Own.less ⟨ownsRow_setCell_below ho.1 hglt _, ho.2⟩ hsz, HR2.out.cut HD2.out hm (by rw [if_neg hcc]) (by omega) (by omega), grown_tr HG2.out (grown_set _ _ _ _)⟩
    · rw [if_neg (by simp [hm]), if_pos rfl, if_neg hm, if_neg (by simp [hm])]
      have hli : (bs'.length : Int) < (n : Int) := by omega
      clear hm
      go_enter Try.func23, Try.ntmps23
      go_wp2_with (first | (go_at_call 26; refine hu.out.mono ?_; rintro e w1 ⟨rfl, hr, hg⟩; have HR := Lib.hid hr; have HG := Lib.hid hg; clear hg; obtain ⟨A, c, hh, hrd, c0, c1, f0, f1⟩ := hr.open_; clear hr) | (go_at_call 35; refine (ready_yes g bs' _ HR.out).mono ?_; rintro e w' ⟨rfl, rfl⟩) | (go_at_call 30; refine (fail_yes g bs' 2 _ HR.out).mono ?_; rintro e w' ⟨rfl, rfl⟩))
      go_ret
      exact ⟨none, 0, [], rfl, rfl, Own.nil_ _ _ _, HR.out.setK 2, grown_tr HG.out (grown_set _ _ _ _)⟩
  · rw [if_neg (by simp [hk]), if_neg hk, if_neg (by simp [hk])]
    have hk' := Lib.hid hk
    clear hk
    go_enter Try.func23, Try.ntmps23
    go_wp2_with (first | (go_at_call 26; refine hu.out.mono ?_; rintro e w1 ⟨rfl, hr, hg⟩; have HR := Lib.hid hr; have HG := Lib.hid hg; clear hg; obtain ⟨A, c, hh, hrd, c0, c1, f0, f1⟩ := hr.open_; clear hr) | (go_at_call 35; refine (ready_no g bs' k' _ HR.out hk'.out).mono ?_; rintro e w' ⟨rfl, rfl⟩))
    go_ret
    exact ⟨none, 0, [], rfl, rfl, Own.nil_ _ _ _, HR.out, HG.out⟩
theorem rbytes_nil (most : Int) (w : World) : Calls Try.prog 23 #[.pointer none, .int .i64 most] w fun e w' => e = .returned (.slice none 0 0) ∧ w = w' := by
  go_enter Try.func23, Try.ntmps23
  go_wp2_with (first | (go_at_call 26; refine (rint_nil _ _).mono ?_; rintro e w' ⟨rfl, rfl⟩) | (go_at_call 35; refine (ready_nil _).mono ?_; rintro e w' ⟨rfl, rfl⟩))
  go_ret
  exact ⟨rfl, rfl⟩
end Go.Proofs.Ytjfpfgogbpiknaa
