/- The walk of WireCut: bytes' form that is cut off anywhere is too short, and what is longer than may be is told so; no condition. -/
import Derived.Test.YtjfpfgogbpiknaaOpen
namespace Go.Proofs.Ytjfpfgogbpiknaa
open Go.RowKit
set_option linter.unusedVariables false
set_option linter.unusedSimpArgs false

theorem wh_lt {xs : List Nat} (hx : ∀ x ∈ xs, x < 256) (n : Nat) : ∀ x ∈ enc n ++ xs, x < 256 := by
  intro x h
  rcases List.mem_append.1 h with h | h
  · exact enc_lt n x h
  · exact hx x h

/-- What a reader over a part of bytes' form answers, asked for bytes: nothing; it is too short. -/
theorem cut_facts {xs : List Nat} (hl : xs.length ≤ 500) (k : Nat) (hk : k < (enc xs.length ++ xs).length) :
    yVal ((enc xs.length ++ xs).take k) 0 500 = [] ∧ yK ((enc xs.length ++ xs).take k) 0 500 = 2 := by
  have hn : xs.length < 18446744073709551616 := by omega
  by_cases hk2 : k < (enc xs.length).length
  · have e : (enc xs.length ++ xs).take k = (enc xs.length).take k := List.take_append_of_le_length (by omega)
    have hd := cut_dec xs.length 0 0 k (by omega) (by omega) (by simpa using hn) hk2
    rw [e]
    have h1 : uK ((enc xs.length).take k) 0 = 2 := by unfold uK; simp only [if_true]; rw [hd]
    have h2 : uRest ((enc xs.length).take k) 0 = (enc xs.length).take k := by unfold uRest; simp only [if_true]; rw [hd]
    have h3 : iK ((enc xs.length).take k) 0 500 = 2 := by unfold iK; rw [h1]; rfl
    unfold yVal yK
    rw [h3]
    exact ⟨rfl, rfl⟩
  · have e : (enc xs.length ++ xs).take k = enc xs.length ++ xs.take (k - (enc xs.length).length) := by
      rw [List.take_append, List.take_of_length_le (by omega)]
    have hu : uNum (enc xs.length ++ xs.take (k - (enc xs.length).length)) 0 = xs.length ∧ uRest (enc xs.length ++ xs.take (k - (enc xs.length).length)) 0 = xs.take (k - (enc xs.length).length) ∧ uK (enc xs.length ++ xs.take (k - (enc xs.length).length)) 0 = 0 := by
      unfold uNum uRest uK
      simp only [if_true]
      rw [enc_dec0 _ hn]
      exact ⟨rfl, rfl, rfl⟩
    rw [e]
    have hm : (xs.length : Int) ≤ 500 := by omega
    rw [List.length_append] at hk
    have hlt : ¬ xs.length ≤ (xs.take (k - (enc xs.length).length)).length := by rw [List.length_take]; omega
    unfold yVal yK iK iNum
    rw [hu.1, hu.2.1, hu.2.2]
    simp only [true_and, if_pos hm, if_true, if_neg hlt]
theorem whole_facts {xs : List Nat} (hl : xs.length ≤ 500) (most : Int) :
    (most < (xs.length : Int) → yVal (enc xs.length ++ xs) 0 most = [] ∧ yRest (enc xs.length ++ xs) 0 most = xs ∧ yK (enc xs.length ++ xs) 0 most = 4) ∧
    (¬ most < (xs.length : Int) → yVal (enc xs.length ++ xs) 0 most = xs ∧ yRest (enc xs.length ++ xs) 0 most = [] ∧ yK (enc xs.length ++ xs) 0 most = 0) := by
  have hn : xs.length < 18446744073709551616 := by omega
  have hu : uNum (enc xs.length ++ xs) 0 = xs.length ∧ uRest (enc xs.length ++ xs) 0 = xs ∧ uK (enc xs.length ++ xs) 0 = 0 := by
    unfold uNum uRest uK
    simp only [if_true]
    rw [enc_dec0 _ hn]
    exact ⟨rfl, rfl, rfl⟩
  constructor
  · intro hm
    have hm2 : ¬ (xs.length : Int) ≤ most := by omega
    unfold yVal yRest yK iK iNum
    rw [hu.1, hu.2.1, hu.2.2]
    simp [if_neg hm2]
  · intro hm
    have hm2 : (xs.length : Int) ≤ most := by omega
    unfold yVal yRest yK iK iNum
    rw [hu.1, hu.2.1, hu.2.2]
    simp [if_pos hm2]


theorem yRest_len {bs : List Nat} {k : Int} (most : Int) (hx : ∀ x ∈ bs, x < 256) : (yRest bs k most).length ≤ bs.length := by
  have := (u_facts (k := k) hx).2
  unfold yRest
  split
  · rw [List.length_drop]; omega
  · exact this

/-- What the call owns stays owned while a reader that is newer turns. -/
theorem own_grown {w w1 w2 : World} {base e : Nat} {A : Option Addr} {c : Nat} {xs : List Nat} {g : Nat} (h0 : Own w base e A c xs) (h : Own w1 base e A c xs) (hg : w1.grownBy w2 (some g)) (hlt : w.heap.size ≤ g) : Own w2 base e A c xs := by
  refine ⟨h.1.kept hg ?_, h.2⟩
  rcases h0.form with ⟨rfl, _, _⟩ | ⟨g', rfl, _, hg', _⟩
  · exact .inl rfl
  · refine .inr fun he => ?_
    injection he with he
    have : g' = g := he
    omega

set_option maxHeartbeats 4000000 in
theorem wireCut_walk (A : Option Addr) (c : Nat) (xs : List Nat) (cut most : Int) (w : World) (h : Rd w w.heap.size A c xs) (hc1 : -9223372036854775808 ≤ cut) (hc2 : cut ≤ 9223372036854775807) (hm1 : -9223372036854775808 ≤ most) (hm2 : most ≤ 9223372036854775807) :
    Calls Try.prog 7 #[.slice A xs.length c, .int .i64 cut, .int .i64 most] w (Yes w) := by
  have H := Lib.hid h
  clear h
  by_cases hl : 500 < xs.length
  · have hli : (500 : Int) < (xs.length : Int) := by omega
    go_enter Try.func7, Try.ntmps7
    go_wp2_with fail
    refine (alive_any _).mono ?_
    rintro e w1 ⟨rfl, hb⟩
    go_wp2_with fail
    go_ret
    exact ⟨rfl, hb⟩
  · have hli : ¬ (500 : Int) < (xs.length : Int) := by omega
    have hl5 : xs.length ≤ 500 := by omega
    have hLL : (enc xs.length ++ xs).length ≤ 1000 := by rw [List.length_append]; have := enc_len (n := xs.length) (by omega); omega
    clear hl
    by_cases hc0 : 0 ≤ cut
    · obtain ⟨k, rfl⟩ := Int.eq_ofNat_of_zero_le hc0
      by_cases hkl : k < (enc xs.length ++ xs).length
      · skip
        go_enter Try.func7, Try.ntmps7
        go_wp2_with fail
        refine (bytes_any none 0 [] A c xs _ 0 _ (Rd.nil_ _ _) H.out (by simp) (by omega) (by omega) (Nat.le_refl _)).mono ?_
        rintro e w1 ⟨A1, c1, zs1, rfl, hz1, ho1, hb1⟩
        have hz1 : Hid (zs1 = enc xs.length ++ xs) := hz1
        have hz1l : zs1.length = (enc xs.length ++ xs).length := by rw [hz1.out]
        have t1 : (k : Int) < (zs1.length : Int) := by omega
        have hcap := ho1.rd.le
        have t2 : (k : Int) ≤ (c1 : Int) := by omega
        have B1 := Lib.hid hb1
        have O1 := Lib.hid ho1
        have CF := Lib.hid (cut_facts hl5 k (by omega))
        rw [← hz1.out] at CF
        obtain ⟨ts, hts, hk⟩ : ∃ ts, Hid (zs1.take k = ts) ∧ k = ts.length := ⟨_, rfl, by rw [List.length_take]; omega⟩
        rw [hts.out] at CF
        have RT := Lib.hid (hts.out ▸ O1.out.rd.take k)
        clear hb1 ho1 hts hkl
        subst hk
        have htl : ts.length ≤ 1000 := by omega
        have htx := Lib.hid RT.out.lt
        clear hz1l
        go_wp2_with fail
        refine (read_any A1 c1 ts _ _ RT.out (by omega) (Nat.le_refl _)).mono ?_
        rintro e v1 ⟨g1, rfl, hr1, hb1, hge1⟩
        have B1a := Lib.hid (bchain B1.out hb1)
        have O1a := Lib.hid (O1.out.below hb1)
        have hge1a : w.heap.size ≤ g1 := by have := B1.out.size; omega
        have R1 := Lib.hid hr1
        have hg1o := Lib.hid hge1
        clear hr1 hb1 hge1
        go_wp2_with fail
        have hy := rbytes_any g1 ts 0 500 _ R1.out (by omega) htx.out (by omega) (by omega)
        rw [CF.out.1, CF.out.2] at hy
        refine hy.mono ?_
        clear hy
        have hrl := yRest_len (k := 0) 500 htx.out
        generalize yRest ts 0 500 = rs at *
        rintro e v2 ⟨A4, c4, zs4, rfl, hz4, ho4, hr4, hg4⟩
        obtain rfl := hz4.out
        have R2 := Lib.hid hr4
        have B1b := Lib.hid (below_grown_new B1a.out hg4 hge1a)
        have O1b := Lib.hid (own_grown O1.out O1a.out hg4 hg1o.out)
        clear hr4 hg4 ho4 hz4 B1a O1a
        go_wp2_with fail
        refine (done_any g1 rs 2 2 _ R2.out rfl).mono ?_
        rintro e v3 ⟨rfl, rfl⟩
        go_wp2_with fail
        have hv := ruint_no g1 rs 2 _ R2.out (by decide)
        rw [show uNum rs 2 = 0 from rfl, show uRest rs 2 = rs from rfl, show uK rs 2 = 2 from rfl] at hv
        refine hv.mono ?_
        clear hv
        rintro e v4 ⟨rfl, hr4, hg4⟩
        have R3 := Lib.hid hr4
        have B1c := Lib.hid (below_grown_new B1b.out hg4 hge1a)
        have O1c := Lib.hid (own_grown O1.out O1b.out hg4 hg1o.out)
        clear hr4 hg4 B1b O1b
        go_wp2_with fail
        have hv := rbool_any g1 rs 2 _ R3.out (by omega)
        rw [show bVal rs 2 = false from rfl, show bRest rs 2 = rs from rfl, show bK rs 2 = 2 from rfl] at hv
        refine hv.mono ?_
        clear hv
        rintro e v5 ⟨rfl, hr4, hg4⟩
        have B2 := Lib.hid (below_grown_new B1c.out hg4 hge1a)
        have O2 := Lib.hid (own_grown O1.out O1c.out hg4 hg1o.out)
        clear hr4 hg4 B1c O1c
        have hz1l : zs1.length = (enc xs.length ++ xs).length := by rw [hz1.out]
        have hz1m : zs1.length ≤ 1000 := by omega
        clear hz1l
        by_cases hm : most < (xs.length : Int)
        · have WF := Lib.hid ((whole_facts (by omega) most).1 hm)
          by_cases hneg : most < 0
          · clear hm
            go_wp2_with fail
            refine (read_any A1 c1 zs1 _ _ O2.out.rd (by omega) (Nat.le_refl _)).mono ?_
            rintro e w3 ⟨g, rfl, hr3, hb3, hge⟩
            have B3 := Lib.hid (bchain B2.out hb3)
            have hge2 : w.heap.size ≤ g := by have := B2.out.size; omega
            rw [hz1.out] at hr3
            have R3 := Lib.hid hr3
            clear hr3 hb3
            go_wp2_with fail
            have hy := rbytes_any g (enc xs.length ++ xs) 0 most _ R3.out (by omega) (wh_lt H.out.lt _) hm1 hm2
            rw [WF.out.1, WF.out.2.1, WF.out.2.2] at hy
            refine hy.mono ?_
            clear hy
            rintro e w4 ⟨A4, c4, zs4, rfl, hz4, ho4, hr4, hg4⟩
            obtain rfl := hz4.out
            have R4 := Lib.hid hr4
            have B5 := Lib.hid (below_grown_new B3.out hg4 hge2)
            clear hr4 hg4 ho4 hz4
            go_wp2_with fail
            refine (done_any g xs 4 4 _ R4.out rfl).mono ?_
            rintro e w5 ⟨rfl, rfl⟩
            go_wp2_with fail
            refine (alive_any _).mono ?_
            rintro e w7 ⟨rfl, hb7⟩
            have B7 := Lib.hid (bchain B5.out hb7)
            clear hb7
            go_wp2_with fail
            go_ret
            exact ⟨rfl, B7.out⟩
          · skip
            go_wp2_with fail
            refine (read_any A1 c1 zs1 _ _ O2.out.rd (by omega) (Nat.le_refl _)).mono ?_
            rintro e w3 ⟨g, rfl, hr3, hb3, hge⟩
            have B3 := Lib.hid (bchain B2.out hb3)
            have hge2 : w.heap.size ≤ g := by have := B2.out.size; omega
            rw [hz1.out] at hr3
            have R3 := Lib.hid hr3
            clear hr3 hb3
            go_wp2_with fail
            have hy := rbytes_any g (enc xs.length ++ xs) 0 most _ R3.out (by omega) (wh_lt H.out.lt _) hm1 hm2
            rw [WF.out.1, WF.out.2.1, WF.out.2.2] at hy
            refine hy.mono ?_
            clear hy
            rintro e w4 ⟨A4, c4, zs4, rfl, hz4, ho4, hr4, hg4⟩
            obtain rfl := hz4.out
            have R4 := Lib.hid hr4
            have B5 := Lib.hid (below_grown_new B3.out hg4 hge2)
            clear hr4 hg4 ho4 hz4
            go_wp2_with fail
            refine (done_any g xs 4 4 _ R4.out rfl).mono ?_
            rintro e w5 ⟨rfl, rfl⟩
            go_wp2_with fail
            refine (alive_any _).mono ?_
            rintro e w7 ⟨rfl, hb7⟩
            have B7 := Lib.hid (bchain B5.out hb7)
            clear hb7
            go_wp2_with fail
            go_ret
            exact ⟨rfl, B7.out⟩
        · have WF := Lib.hid ((whole_facts (by omega) most).2 hm)
          have hneg : ¬ most < 0 := by omega
          go_wp2_with fail
          refine (read_any A1 c1 zs1 _ _ O2.out.rd (by omega) (Nat.le_refl _)).mono ?_
          rintro e w3 ⟨g, rfl, hr3, hb3, hge⟩
          have B3 := Lib.hid (bchain B2.out hb3)
          have hge2 : w.heap.size ≤ g := by have := B2.out.size; omega
          rw [hz1.out] at hr3
          have R3 := Lib.hid hr3
          clear hr3 hb3
          go_wp2_with fail
          have hy := rbytes_any g (enc xs.length ++ xs) 0 most _ R3.out (by omega) (wh_lt H.out.lt _) hm1 hm2
          rw [WF.out.1, WF.out.2.1, WF.out.2.2] at hy
          refine hy.mono ?_
          clear hy
          rintro e w4 ⟨A4, c4, zs4, rfl, hz4, ho4, hr4, hg4⟩
          have R4 := Lib.hid hr4
          have O4 := Lib.hid ho4
          have B4 := Lib.hid (below_grown_new B3.out hg4 hge2)
          clear hr4 hg4 ho4
          go_wp2_with fail
          refine (same_any A4 c4 zs4 A c xs _ _ _ O4.out.rd (H.out.below B4.out (Nat.le_refl _)) true (by rw [hz4.out]; simp)).mono ?_
          rintro e w5 ⟨rfl, n5, rfl⟩
          have R5 := Lib.hid (R4.out.drewN n5)
          have B5 := Lib.hid (below_drewN B4.out n5)
          go_wp2_with fail
          refine (done_any g [] 0 0 _ R5.out rfl).mono ?_
          rintro e w6 ⟨rfl, rfl⟩
          go_wp2_with fail
          refine (alive_any _).mono ?_
          rintro e w7 ⟨rfl, hb7⟩
          have B7 := Lib.hid (bchain B5.out hb7)
          clear hb7
          go_wp2_with fail
          go_ret
          exact ⟨rfl, B7.out⟩
      · skip
        go_enter Try.func7, Try.ntmps7
        go_wp2_with fail
        refine (bytes_any none 0 [] A c xs _ 0 _ (Rd.nil_ _ _) H.out (by simp) (by omega) (by omega) (Nat.le_refl _)).mono ?_
        rintro e w1 ⟨A1, c1, zs1, rfl, hz1, ho1, hb1⟩
        have hz1 : Hid (zs1 = enc xs.length ++ xs) := hz1
        have hz1l : zs1.length = (enc xs.length ++ xs).length := by rw [hz1.out]
        have t1 : ¬ (k : Int) < (zs1.length : Int) := by omega
        have B2 := Lib.hid hb1
        have O2 := Lib.hid ho1
        have hz1m : zs1.length ≤ 1000 := by omega
        clear hb1 ho1 hz1l
        by_cases hm : most < (xs.length : Int)
        · have WF := Lib.hid ((whole_facts (by omega) most).1 hm)
          by_cases hneg : most < 0
          · clear hm
            go_wp2_with fail
            refine (read_any A1 c1 zs1 _ _ O2.out.rd (by omega) (Nat.le_refl _)).mono ?_
            rintro e w3 ⟨g, rfl, hr3, hb3, hge⟩
            have B3 := Lib.hid (bchain B2.out hb3)
            have hge2 : w.heap.size ≤ g := by have := B2.out.size; omega
            rw [hz1.out] at hr3
            have R3 := Lib.hid hr3
            clear hr3 hb3
            go_wp2_with fail
            have hy := rbytes_any g (enc xs.length ++ xs) 0 most _ R3.out (by omega) (wh_lt H.out.lt _) hm1 hm2
            rw [WF.out.1, WF.out.2.1, WF.out.2.2] at hy
            refine hy.mono ?_
            clear hy
            rintro e w4 ⟨A4, c4, zs4, rfl, hz4, ho4, hr4, hg4⟩
            obtain rfl := hz4.out
            have R4 := Lib.hid hr4
            have B5 := Lib.hid (below_grown_new B3.out hg4 hge2)
            clear hr4 hg4 ho4 hz4
            go_wp2_with fail
            refine (done_any g xs 4 4 _ R4.out rfl).mono ?_
            rintro e w5 ⟨rfl, rfl⟩
            go_wp2_with fail
            refine (alive_any _).mono ?_
            rintro e w7 ⟨rfl, hb7⟩
            have B7 := Lib.hid (bchain B5.out hb7)
            clear hb7
            go_wp2_with fail
            go_ret
            exact ⟨rfl, B7.out⟩
          · skip
            go_wp2_with fail
            refine (read_any A1 c1 zs1 _ _ O2.out.rd (by omega) (Nat.le_refl _)).mono ?_
            rintro e w3 ⟨g, rfl, hr3, hb3, hge⟩
            have B3 := Lib.hid (bchain B2.out hb3)
            have hge2 : w.heap.size ≤ g := by have := B2.out.size; omega
            rw [hz1.out] at hr3
            have R3 := Lib.hid hr3
            clear hr3 hb3
            go_wp2_with fail
            have hy := rbytes_any g (enc xs.length ++ xs) 0 most _ R3.out (by omega) (wh_lt H.out.lt _) hm1 hm2
            rw [WF.out.1, WF.out.2.1, WF.out.2.2] at hy
            refine hy.mono ?_
            clear hy
            rintro e w4 ⟨A4, c4, zs4, rfl, hz4, ho4, hr4, hg4⟩
            obtain rfl := hz4.out
            have R4 := Lib.hid hr4
            have B5 := Lib.hid (below_grown_new B3.out hg4 hge2)
            clear hr4 hg4 ho4 hz4
            go_wp2_with fail
            refine (done_any g xs 4 4 _ R4.out rfl).mono ?_
            rintro e w5 ⟨rfl, rfl⟩
            go_wp2_with fail
            refine (alive_any _).mono ?_
            rintro e w7 ⟨rfl, hb7⟩
            have B7 := Lib.hid (bchain B5.out hb7)
            clear hb7
            go_wp2_with fail
            go_ret
            exact ⟨rfl, B7.out⟩
        · have WF := Lib.hid ((whole_facts (by omega) most).2 hm)
          have hneg : ¬ most < 0 := by omega
          go_wp2_with fail
          refine (read_any A1 c1 zs1 _ _ O2.out.rd (by omega) (Nat.le_refl _)).mono ?_
          rintro e w3 ⟨g, rfl, hr3, hb3, hge⟩
          have B3 := Lib.hid (bchain B2.out hb3)
          have hge2 : w.heap.size ≤ g := by have := B2.out.size; omega
          rw [hz1.out] at hr3
          have R3 := Lib.hid hr3
          clear hr3 hb3
          go_wp2_with fail
          have hy := rbytes_any g (enc xs.length ++ xs) 0 most _ R3.out (by omega) (wh_lt H.out.lt _) hm1 hm2
          rw [WF.out.1, WF.out.2.1, WF.out.2.2] at hy
          refine hy.mono ?_
          clear hy
          rintro e w4 ⟨A4, c4, zs4, rfl, hz4, ho4, hr4, hg4⟩
          have R4 := Lib.hid hr4
          have O4 := Lib.hid ho4
          have B4 := Lib.hid (below_grown_new B3.out hg4 hge2)
          clear hr4 hg4 ho4
          go_wp2_with fail
          refine (same_any A4 c4 zs4 A c xs _ _ _ O4.out.rd (H.out.below B4.out (Nat.le_refl _)) true (by rw [hz4.out]; simp)).mono ?_
          rintro e w5 ⟨rfl, n5, rfl⟩
          have R5 := Lib.hid (R4.out.drewN n5)
          have B5 := Lib.hid (below_drewN B4.out n5)
          go_wp2_with fail
          refine (done_any g [] 0 0 _ R5.out rfl).mono ?_
          rintro e w6 ⟨rfl, rfl⟩
          go_wp2_with fail
          refine (alive_any _).mono ?_
          rintro e w7 ⟨rfl, hb7⟩
          have B7 := Lib.hid (bchain B5.out hb7)
          clear hb7
          go_wp2_with fail
          go_ret
          exact ⟨rfl, B7.out⟩
    · skip
      go_enter Try.func7, Try.ntmps7
      go_wp2_with fail
      refine (bytes_any none 0 [] A c xs _ 0 _ (Rd.nil_ _ _) H.out (by simp) (by omega) (by omega) (Nat.le_refl _)).mono ?_
      rintro e w1 ⟨A1, c1, zs1, rfl, hz1, ho1, hb1⟩
      have hz1 : Hid (zs1 = enc xs.length ++ xs) := hz1
      have hz1l : zs1.length = (enc xs.length ++ xs).length := by rw [hz1.out]
      have B2 := Lib.hid hb1
      have O2 := Lib.hid ho1
      have hz1m : zs1.length ≤ 1000 := by omega
      clear hb1 ho1 hz1l
      by_cases hm : most < (xs.length : Int)
      · have WF := Lib.hid ((whole_facts (by omega) most).1 hm)
        by_cases hneg : most < 0
        · clear hm
          go_wp2_with fail
          refine (read_any A1 c1 zs1 _ _ O2.out.rd (by omega) (Nat.le_refl _)).mono ?_
          rintro e w3 ⟨g, rfl, hr3, hb3, hge⟩
          have B3 := Lib.hid (bchain B2.out hb3)
          have hge2 : w.heap.size ≤ g := by have := B2.out.size; omega
          rw [hz1.out] at hr3
          have R3 := Lib.hid hr3
          clear hr3 hb3
          go_wp2_with fail
          have hy := rbytes_any g (enc xs.length ++ xs) 0 most _ R3.out (by omega) (wh_lt H.out.lt _) hm1 hm2
          rw [WF.out.1, WF.out.2.1, WF.out.2.2] at hy
          refine hy.mono ?_
          clear hy
          rintro e w4 ⟨A4, c4, zs4, rfl, hz4, ho4, hr4, hg4⟩
          obtain rfl := hz4.out
          have R4 := Lib.hid hr4
          have B5 := Lib.hid (below_grown_new B3.out hg4 hge2)
          clear hr4 hg4 ho4 hz4
          go_wp2_with fail
          refine (done_any g xs 4 4 _ R4.out rfl).mono ?_
          rintro e w5 ⟨rfl, rfl⟩
          go_wp2_with fail
          refine (alive_any _).mono ?_
          rintro e w7 ⟨rfl, hb7⟩
          have B7 := Lib.hid (bchain B5.out hb7)
          clear hb7
          go_wp2_with fail
          go_ret
          exact ⟨rfl, B7.out⟩
        · skip
          go_wp2_with fail
          refine (read_any A1 c1 zs1 _ _ O2.out.rd (by omega) (Nat.le_refl _)).mono ?_
          rintro e w3 ⟨g, rfl, hr3, hb3, hge⟩
          have B3 := Lib.hid (bchain B2.out hb3)
          have hge2 : w.heap.size ≤ g := by have := B2.out.size; omega
          rw [hz1.out] at hr3
          have R3 := Lib.hid hr3
          clear hr3 hb3
          go_wp2_with fail
          have hy := rbytes_any g (enc xs.length ++ xs) 0 most _ R3.out (by omega) (wh_lt H.out.lt _) hm1 hm2
          rw [WF.out.1, WF.out.2.1, WF.out.2.2] at hy
          refine hy.mono ?_
          clear hy
          rintro e w4 ⟨A4, c4, zs4, rfl, hz4, ho4, hr4, hg4⟩
          obtain rfl := hz4.out
          have R4 := Lib.hid hr4
          have B5 := Lib.hid (below_grown_new B3.out hg4 hge2)
          clear hr4 hg4 ho4 hz4
          go_wp2_with fail
          refine (done_any g xs 4 4 _ R4.out rfl).mono ?_
          rintro e w5 ⟨rfl, rfl⟩
          go_wp2_with fail
          refine (alive_any _).mono ?_
          rintro e w7 ⟨rfl, hb7⟩
          have B7 := Lib.hid (bchain B5.out hb7)
          clear hb7
          go_wp2_with fail
          go_ret
          exact ⟨rfl, B7.out⟩
      · have WF := Lib.hid ((whole_facts (by omega) most).2 hm)
        have hneg : ¬ most < 0 := by omega
        go_wp2_with fail
        refine (read_any A1 c1 zs1 _ _ O2.out.rd (by omega) (Nat.le_refl _)).mono ?_
        rintro e w3 ⟨g, rfl, hr3, hb3, hge⟩
        have B3 := Lib.hid (bchain B2.out hb3)
        have hge2 : w.heap.size ≤ g := by have := B2.out.size; omega
        rw [hz1.out] at hr3
        have R3 := Lib.hid hr3
        clear hr3 hb3
        go_wp2_with fail
        have hy := rbytes_any g (enc xs.length ++ xs) 0 most _ R3.out (by omega) (wh_lt H.out.lt _) hm1 hm2
        rw [WF.out.1, WF.out.2.1, WF.out.2.2] at hy
        refine hy.mono ?_
        clear hy
        rintro e w4 ⟨A4, c4, zs4, rfl, hz4, ho4, hr4, hg4⟩
        have R4 := Lib.hid hr4
        have O4 := Lib.hid ho4
        have B4 := Lib.hid (below_grown_new B3.out hg4 hge2)
        clear hr4 hg4 ho4
        go_wp2_with fail
        refine (same_any A4 c4 zs4 A c xs _ _ _ O4.out.rd (H.out.below B4.out (Nat.le_refl _)) true (by rw [hz4.out]; simp)).mono ?_
        rintro e w5 ⟨rfl, n5, rfl⟩
        have R5 := Lib.hid (R4.out.drewN n5)
        have B5 := Lib.hid (below_drewN B4.out n5)
        go_wp2_with fail
        refine (done_any g [] 0 0 _ R5.out rfl).mono ?_
        rintro e w6 ⟨rfl, rfl⟩
        go_wp2_with fail
        refine (alive_any _).mono ?_
        rintro e w7 ⟨rfl, hb7⟩
        have B7 := Lib.hid (bchain B5.out hb7)
        clear hb7
        go_wp2_with fail
        go_ret
        exact ⟨rfl, B7.out⟩
end Go.Proofs.Ytjfpfgogbpiknaa
