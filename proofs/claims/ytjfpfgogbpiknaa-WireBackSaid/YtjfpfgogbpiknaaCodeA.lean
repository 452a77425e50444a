/- Contracts of slices.Clone, wire.Uint, Same over bytes; no condition. -/
import Derived.Test.YtjfpfgogbpiknaaProg
import Derived.Test.YtjfpfgogbpiknaaBase
import Derived.Outline
import Derived.WalkMore
import Derived.ScopeJumps
import Derived.Deep.LoopGhost
import Derived.BigQuiet
import Derived.Deep.QuietTactic
namespace Go.Proofs.Ytjfpfgogbpiknaa
open Go.RowKit
set_option linter.unusedVariables false
set_option linter.unusedSimpArgs false

theorem info5 : (Try.prog.info? 5).map (fun i => (i.zero, i.size, i.bytes)) = some (some (.int .u8 0), 1, 1) := by kernel_rfl

/-- What a function answers that makes a slice of bytes of its own. -/
def Makes (w : World) (xs : List Nat) (e : Ending) (w' : World) : Prop :=
  ∃ A c zs, e = .returned (.slice A zs.length c) ∧ Hid (zs = xs) ∧ Own w' w.heap.size 5 A c zs ∧ Below w.heap.size w w'

set_option maxHeartbeats 400000 in
theorem clone_any (A : Option Addr) (c : Nat) (xs : List Nat) (w : World) (B : Nat) (h : Rd w B A c xs) (hb : xs.length ≤ 1000000) (hB : B ≤ w.heap.size) :
    Calls Try.prog 34 #[.slice A xs.length c] w (Makes w xs) := by
  have H := Lib.hid h
  clear h
  have q := fun (w : World) => Lib.run_eql_slice_nil (P := Try.prog) w 22 5 A xs.length c 0 0 Try.underlying22
  rcases A with _ | ad
  · go_enter Try.func34, Try.ntmps34
    go_wp2
    go_ret
    refine ⟨none, 0, [], rfl, ?_, Own.nil_ _ _ _, Below.refl _ _⟩
    have := H.out.2.2.2
    rcases Nat.eq_zero_or_pos xs.length with h0 | h0
    · exact (List.eq_nil_of_length_eq_zero h0).symm
    · obtain ⟨_, h, _⟩ := this h0
      cases h
  · go_enter Try.func34, Try.ntmps34
    go_wp2_with (at_builtin; refine wpList_app _ rfl _ _ 22 rfl w.heap.size 5 Try.underlying22 info5 rfl rfl (Own.empty _ _ _ (Nat.le_refl _)) rfl rfl (H.out.alloc hB _) (by simp; omega) (by simp) ?_)
    intro A' c' zs w' hz ho hg
    go_wp2
    go_ret
    exact ⟨A', c', zs, rfl, hz, ho, grown_to_below (((Below.refl _ _).alloc (Nat.le_refl _) _)) hg (Own.empty w w.heap.size 5 (Nat.le_refl _)) (Nat.le_refl _)⟩

/-- What a function answers that only reads. -/
def Tells (w : World) (b : Bool) (e : Ending) (w' : World) : Prop := e = .returned (.bool b) ∧ ∃ n, w' = w.drewN n

theorem dd (w : World) (a b : Nat) : ∃ m, (w.drewN a).drewN b = w.drewN m := ⟨_, World.drewN_drewN _ _ _⟩
theorem same_step {xs ys : List Nat} {k : Nat} (h : xs.take k = ys.take k) (hl : xs.length = ys.length) (hk : k < xs.length) (he : xs[k]? = ys[k]?) : xs.take (k + 1) = ys.take (k + 1) := by
  rw [List.take_add_one, List.take_add_one, h, he]

set_option maxHeartbeats 400000 in
theorem same_any (A : Option Addr) (c : Nat) (xs : List Nat) (A2 : Option Addr) (c2 : Nat) (ys : List Nat) (w : World) (B B2 : Nat) (h : Rd w B A c xs) (h2 : Rd w B2 A2 c2 ys) (b : Bool) (hb : b = decide (xs = ys)) :
    Calls Try.prog 15 #[.slice A xs.length c, .slice A2 ys.length c2] w (Tells w b) := by
  have H := Lib.hid h
  clear h
  have H2 := Lib.hid h2
  clear h2
  have HB := Lib.hid hb
  clear hb
  have hmax := H.out.max
  unfold maxLen at hmax
  by_cases hl : xs.length = ys.length
  · have HL := Lib.hid hl
    have hlb : (((xs.length : Nat) : Int) != ((ys.length : Nat) : Int)) = false := by simp [hl]
    have hlc : ((xs.length == ys.length) = true) := by simp [hl]
    clear hl
    go_enter Try.func15, Try.ntmps15
    go_wp2
    go_loopw [5] (fun i wr => ∃ k : Nat, k ≤ xs.length ∧ i = .int .i64 k ∧ Hid (xs.take k = ys.take k) ∧ ∃ n, wr = w.drewN n) (fun i _ => xs.length - (intOf i).toNat)
    case atStart => exact ⟨0, Nat.zero_le _, rfl, by simp [Hid], 0, rfl⟩
    case round =>
      obtain ⟨k, hk, rfl, HT, n, rfl⟩ := hrel
      by_cases hlt : k < xs.length
      · have hlt2 : k < ys.length := by have := HL.out; omega
        obtain ⟨ad, x, rfl, _, hx, hxb, hc⟩ := H.out.at_ hlt
        obtain ⟨ad2, y, rfl, _, hy, hyb, hc2⟩ := H2.out.at_ hlt2
        by_cases hxy : x = y
        · subst hxy
          have HT' : Hid (xs.take (k + 1) = ys.take (k + 1)) := same_step HT.out HL.out hlt (hx.trans hy.symm)
          clear hx hy
          go_wp2
          go_quiet (fail)
          go_wp2
          go_roundw
          case rel => exact ⟨k + 1, by omega, by go_num, HT', _, rfl⟩
          case measure => simp [intOf]; omega
        · have hf : b = false := by
            rw [HB.out]
            simp only [decide_eq_false_iff_not]
            rintro rfl
            rw [hx] at hy
            exact hxy (by injection hy)
          clear hx hy
          have hne : ((x : Int) != (y : Int)) = true := by simp; omega
          subst hf
          go_wp2
          go_quiet (fail)
          go_wp2
          go_ret
          exact ⟨rfl, dd _ _ _⟩
      · have he : b = true := by
          rw [HB.out]
          simp only [decide_eq_true_eq]
          have := HT.out
          have := HL.out
          rw [List.take_of_length_le (by omega), List.take_of_length_le (by omega)] at *
          assumption
        subst he
        go_wp2
        go_ret
        exact ⟨rfl, _, rfl⟩
  · have hlb : (((xs.length : Nat) : Int) != ((ys.length : Nat) : Int)) = true := by simp; omega
    have hlc : ((xs.length == ys.length) = false) := by simp [hl]
    have hf : b = false := by
      rw [HB.out]
      simp only [decide_eq_false_iff_not]
      rintro rfl
      exact hl rfl
    subst hf
    go_enter Try.func15, Try.ntmps15
    go_wp2
    go_ret
    exact ⟨rfl, 0, rfl⟩

/-- A number's form. -/
def enc (n : Nat) : List Nat := if n < 128 then [n] else (n % 128 + 128) :: enc (n / 128)
theorem enc_small {n : Nat} (h : n < 128) : enc n = [n] := by rw [enc, if_pos h]
theorem enc_big {n : Nat} (h : 128 ≤ n) : enc n = (n % 128 + 128) :: enc (n / 128) := by rw [enc, if_neg (by omega)]
theorem enc_len_le (f : Nat) : ∀ n, n < 128 ^ (f + 1) → (enc n).length ≤ f + 1 := by
  induction f with
  | zero => intro n h; rw [enc_small (by omega)]; simp
  | succ f ih =>
    intro n h
    by_cases hn : n < 128
    · rw [enc_small hn]; simp
    · rw [enc_big (by omega)]
      have := ih (n / 128) (by rw [Nat.pow_succ] at h; exact Nat.div_lt_of_lt_mul (by omega))
      simp only [List.length_cons]
      omega
theorem enc_len {n : Nat} (h : n < 18446744073709551616) : (enc n).length ≤ 10 := enc_len_le 9 n (by omega)

/-- What holds at a jump of the loop. -/
def EncJ (w : World) (ts : List Nat) (a' : Act) (w' : World) : Prop :=
  ∃ (A : Option Addr) (c : Nat) (zs : List Nat) (m : Nat) (u2 u3 u4 u5 u6 u7 u8 u9 u10 u11 u12 u13 u14 u15 u16 u17 u18 u19 u20 u21 u22 : Value), a' = { tmps := #[.slice A zs.length c, .int .u64 (m : Int), u2, u3, u4, u5, u6, u7, u8, u9, u10, u11, u12, u13, u14, u15, u16, u17, u18, u19, u20, u21, u22], defers := [] } ∧
    Own w' w.heap.size 5 A c zs ∧ Below w.heap.size w w' ∧ Hid (zs ++ enc m = ts) ∧ m < 18446744073709551616

theorem or_byte (m : Nat) : ∃ x : Nat, bits .or .u8 ((m : Int) % 256) 128 = (x : Int) ∧ x = m % 128 + 128 ∧ x < 256 := by
  refine ⟨m % 128 + 128, ?_, rfl, by omega⟩
  have h : ((m : Int) % 256) = ((m % 256 : Nat) : Int) := by omega
  rw [h, show (128 : Int) = ((128 : Nat) : Int) from rfl, u8_or_nat _ _ (by omega) (by omega)]
  congr 1
  by_cases hm : m % 256 < 128
  · rw [Nat.or_comm, nat_join 7 128 (m % 256) (by decide) (by omega)]; omega
  · have h2 : m % 256 = 128 + m % 128 := by omega
    have h3 : (128 + m % 128) = 128 ||| (m % 128) := (nat_join 7 128 (m % 128) (by decide) (by omega)).symm
    rw [h2, h3, Nat.or_comm, ← Nat.or_assoc, Nat.or_self, ← h3]; omega

theorem enc_lt (n : Nat) : ∀ x ∈ enc n, x < 256 := by
  induction n using Nat.strongRecOn with
  | _ n ih =>
    by_cases h : n < 128
    · rw [enc_small h]; simp; omega
    · rw [enc_big (by omega)]
      intro x hx
      rcases List.mem_cons.1 hx with rfl | hx
      · omega
      · exact ih (n / 128) (by omega) x hx

/-- One round of the loop: by the law at the append, then on. -/
theorem encJ_len {zs ts : List Nat} {m : Nat} (h : Hid (zs ++ enc m = ts)) (hm : m < 18446744073709551616) (ht : ts.length ≤ 1000000) : zs.length ≤ 1000000 := by
  have := congrArg List.length h.out
  rw [List.length_append] at this
  omega

set_option maxRecDepth 100000 in
set_option maxHeartbeats 400000 in
theorem uint_any (A : Option Addr) (c : Nat) (xs : List Nat) (n : Nat) (w : World) (B : Nat) (h : Rd w B A c xs) (hb : xs.length ≤ 900000) (hB : B ≤ w.heap.size) (hn : n < 18446744073709551616) :
    Calls Try.prog 16 #[.slice A xs.length c, .int .u64 (n : Int)] w (Makes w (xs ++ enc n)) := by
  have H := Lib.hid h
  clear h
  have hT : (xs ++ enc n).length ≤ 1000000 := by rw [List.length_append]; have := enc_len hn; omega
  generalize hts : xs ++ enc n = ts at *
  have HT := Lib.hid hts
  clear hts
  go_enter Try.func16, Try.ntmps16
  go_wp2
  refine wp_scope_jumps 0 (EncJ w ts) (fun a' _ => (intOf (a'.tmps.getD 1 undef)).toNat) rfl ?_ ?_
  · go_wp2_with (go_at_call 34; refine (clone_any A c xs _ B H.out (by omega) hB).mono ?_; rintro e w' ⟨A1, c1, zs, rfl, hz, ho, hbel⟩)
    have hzl : zs.length ≤ 1000000 := by rw [hz.out]; omega
    go_step3
    by_cases hs : n < 128
    · have ht : ((n : Int) / 128 == 0) = true := by simp; omega
      have e1 : (n : Int) % 256 = (n : Int) := by omega
      go_wp2_with (at_builtin; refine wpList_app _ rfl _ _ 22 rfl w.heap.size 5 Try.underlying22 info5 rfl rfl (ho.alloc _) rfl rfl (Rd.one _ _ n (by omega)) (by simp; omega) (by have := hbel.size; simp; omega) ?_)
      intro A2 c2 zs2 w2 hz2 ho2 hg2
      have hbel2 := grown_to_below (hbel.alloc hbel.size _) hg2 (ho.alloc _) (Nat.le_refl _)
      go_wp2
      simp only [Exit.jump]
      go_ret
      refine ⟨A2, c2, zs2, rfl, ?_, ho2, hbel2⟩
      rw [hz2.out, hz.out, ← HT.out, enc_small hs]; rfl
    · have ht : ((n : Int) / 128 == 0) = false := by simp; omega
      obtain ⟨x, e1, hx, hxb⟩ := or_byte n
      have HX := Lib.hid hx
      clear hx
      go_wp2_with (at_builtin; refine wpList_app _ rfl _ _ 22 rfl w.heap.size 5 Try.underlying22 info5 rfl rfl (ho.alloc _) rfl rfl (Rd.one _ _ x hxb) (by simp; omega) (by have := hbel.size; simp; omega) ?_)
      intro A2 c2 zs2 w2 hz2 ho2 hg2
      have hbel2 := grown_to_below (hbel.alloc hbel.size _) hg2 (ho.alloc _) (Nat.le_refl _)
      go_wp2
      go_step3
      have ed : ((n : Int) / 128) = ((n / 128 : Nat) : Int) := by omega
      rw [ed]
      refine ⟨rfl, A2, c2, zs2, n / 128, _, _, _, _, _, _, _, _, _, _, _, _, _, _, _, _, _, _, _, _, _, rfl, ho2, hbel2, ?_, by omega⟩
      · show _ = _
        rw [hz2.out, hz.out, ← HT.out, enc_big (n := n) (by omega), HX.out]; simp
  · rintro a' w' ⟨A1, c1, zs, m, u2, u3, u4, u5, u6, u7, u8, u9, u10, u11, u12, u13, u14, u15, u16, u17, u18, u19, u20, u21, u22, rfl, ho, hbel, hz, hm⟩
    have hzl := encJ_len hz hm hT
    by_cases hs : m < 128
    · have ht : ((m : Int) / 128 == 0) = true := by simp; omega
      have e1 : (m : Int) % 256 = (m : Int) := by omega
      go_wp2_with (at_builtin; refine wpList_app _ rfl _ _ 22 rfl w.heap.size 5 Try.underlying22 info5 rfl rfl (ho.alloc _) rfl rfl (Rd.one _ _ m (by omega)) (by simp; omega) (by have := hbel.size; simp; omega) ?_)
      intro A2 c2 zs2 w2 hz2 ho2 hg2
      have hbel2 := grown_to_below (hbel.alloc hbel.size _) hg2 (ho.alloc _) (Nat.le_refl _)
      go_wp2
      simp only [Exit.jump]
      go_ret
      refine ⟨A2, c2, zs2, rfl, ?_, ho2, hbel2⟩
      rw [hz2.out, ← hz.out, enc_small hs]; rfl
    · have ht : ((m : Int) / 128 == 0) = false := by simp; omega
      obtain ⟨x, e1, hx, hxb⟩ := or_byte m
      have HX := Lib.hid hx
      clear hx
      go_wp2_with (at_builtin; refine wpList_app _ rfl _ _ 22 rfl w.heap.size 5 Try.underlying22 info5 rfl rfl (ho.alloc _) rfl rfl (Rd.one _ _ x hxb) (by simp; omega) (by have := hbel.size; simp; omega) ?_)
      intro A2 c2 zs2 w2 hz2 ho2 hg2
      have hbel2 := grown_to_below (hbel.alloc hbel.size _) hg2 (ho.alloc _) (Nat.le_refl _)
      go_wp2
      go_step3
      have ed : ((m : Int) / 128) = ((m / 128 : Nat) : Int) := by omega
      rw [ed]
      refine ⟨rfl, ⟨A2, c2, zs2, m / 128, _, _, _, _, _, _, _, _, _, _, _, _, _, _, _, _, _, _, _, _, _, rfl, ho2, hbel2, ?_, by omega⟩, ?_⟩
      · show _ = _
        rw [hz2.out, ← hz.out, enc_big (n := m) (by omega), HX.out]; simp
      · simp [intOf]; omega
end Go.Proofs.Ytjfpfgogbpiknaa
