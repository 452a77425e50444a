/- Words for byte slices in memory (what a slice reads as, a slice that the call owns), the append law over them, and readers behind a pointer; no condition. -/
import Derived.WalkKit
import Derived.Below
import Derived.Deep.Draws
import Derived.Deep.AppendLies
import Derived.Maps.AppendAt
import Derived.WalkSpells
import Derived.WalkLawsBesides
import Derived.Lib.Hide
import Derived.KernelRfl
namespace Go.Proofs.Ythhmjfngldfmjaa
open Go.RowKit
set_option linter.unusedVariables false
set_option linter.unusedSimpArgs false

def bv (x : Nat) : Value := .int .u8 (x : Int)
def bvs (xs : List Nat) : List Value := xs.map bv
theorem bvs_len (xs : List Nat) : (bvs xs).length = xs.length := by simp [bvs]
theorem bvs_get {xs : List Nat} {j : Nat} {u : Value} (h : (bvs xs)[j]? = some u) : ∃ x, xs[j]? = some x ∧ u = bv x := by
  unfold bvs at h
  rw [List.getElem?_map, Option.map_eq_some_iff] at h
  obtain ⟨x, h1, h2⟩ := h
  exact ⟨x, h1, h2.symm⟩
theorem bvs_app (xs ys : List Nat) : bvs (xs ++ ys) = bvs xs ++ bvs ys := by simp [bvs]
theorem bvs_one {xs : List Nat} : ∀ u ∈ bvs xs, u.oneCell' = true := by
  intro u hu
  unfold bvs at hu
  obtain ⟨x, _, rfl⟩ := List.mem_map.1 hu
  rfl

theorem add_block (a : Addr) (n : Nat) : (a.add n).block = a.block := by unfold Addr.add; split <;> rfl
theorem add_add (a : Addr) (i j : Nat) : (a.add i).add j = a.add (i + j) := by
  unfold Addr.add
  by_cases hi : i = 0 <;> by_cases hj : j = 0 <;> simp [hi, hj, Nat.add_assoc]
theorem add_head (g j : Nat) : (⟨g, 0, none⟩ : Addr).add j = ⟨g, j, none⟩ := by unfold Addr.add; split <;> simp_all

/-- The slice '.slice A xs.length c' reads as the bytes xs, in blocks below B. -/
def Rd (w : World) (B : Nat) (A : Option Addr) (c : Nat) (xs : List Nat) : Prop :=
  xs.length ≤ c ∧ c ≤ maxLen ∧ (∀ x ∈ xs, x < 256) ∧ (0 < xs.length → ∃ ad, A = some ad ∧ ad.block < B ∧ ∀ j x, xs[j]? = some x → w.cell? (ad.add j) = some (bv x))

section
variable {w w' : World} {B B' : Nat} {A : Option Addr} {c : Nat} {xs : List Nat}
theorem Rd.nil_ (w : World) (B : Nat) : Rd w B none 0 [] := ⟨by simp, by unfold maxLen; omega, by simp, by simp⟩
theorem Rd.lt (h : Rd w B A c xs) : ∀ x ∈ xs, x < 256 := h.2.2.1
theorem Rd.le (h : Rd w B A c xs) : xs.length ≤ c := h.1
theorem Rd.max (h : Rd w B A c xs) : xs.length ≤ maxLen := Nat.le_trans h.1 h.2.1
theorem Rd.at_ {k : Nat} (h : Rd w B A c xs) (hk : k < xs.length) : ∃ ad x, A = some ad ∧ ad.block < B ∧ xs[k]? = some x ∧ x < 256 ∧ w.cell? (ad.add k) = some (.int .u8 (x : Int)) := by
  obtain ⟨ad, e, hb, hc⟩ := h.2.2.2 (by omega)
  have hg := List.getElem?_eq_getElem hk
  exact ⟨ad, xs[k], e, hb, hg, h.lt _ (List.getElem_mem hk), hc k _ hg⟩
theorem Rd.keep (h : Rd w B A c xs) (hk : ∀ p : Addr, p.block < B → w'.cell? p = w.cell? p) : Rd w' B A c xs :=
  ⟨h.1, h.2.1, h.2.2.1, fun hn => by
    obtain ⟨ad, e, hb, hc⟩ := h.2.2.2 hn
    exact ⟨ad, e, hb, fun j u hu => (hk _ (by rw [add_block]; exact hb)).trans (hc j u hu)⟩⟩
theorem Rd.more (h : Rd w B A c xs) (hB : B ≤ B') : Rd w B' A c xs :=
  ⟨h.1, h.2.1, h.2.2.1, fun hn => by
    obtain ⟨ad, e, hb, hc⟩ := h.2.2.2 hn
    exact ⟨ad, e, by omega, hc⟩⟩
theorem Rd.below (h : Rd w B A c xs) (hb : Below B' w w') (hB : B ≤ B') : Rd w' B A c xs := h.keep fun _ hp => hb.cell (by omega)
theorem Rd.drew (h : Rd w B A c xs) : Rd w.drew B A c xs := h
theorem Rd.drewN (h : Rd w B A c xs) (k : Nat) : Rd (w.drewN k) B A c xs := h
theorem Rd.alloc (h : Rd w B A c xs) (hB : B ≤ w.heap.size) (o : Obj) : Rd (w.alloc o) B A c xs := h.keep fun p hp => World.cell?_alloc_lt w o p (by omega)
theorem Rd.setCell (h : Rd w B A c xs) {p : Addr} (hB : B ≤ p.block) (u : Value) : Rd (w.setCell p u) B A c xs :=
  h.keep fun q hq => World.cell?_setCell_other w p q u (fun e => by subst e; omega)
theorem Rd.grown (h : Rd w B A c xs) {row : Option Nat} (hg : w.grownBy w' row) (hB : B ≤ w.heap.size) (hr : ∀ g, row = some g → B ≤ g) : Rd w' B A c xs :=
  h.keep fun p hp => World.cell?_of_block (hg.block p.block (by omega) (fun e => by have := hr _ e.symm; omega))
theorem Rd.take (h : Rd w B A c xs) (k : Nat) : Rd w B A c (xs.take k) := by
  refine ⟨by rw [List.length_take]; have := h.1; omega, h.2.1, fun x hx => h.lt x (List.mem_of_mem_take hx), fun hn => ?_⟩
  obtain ⟨ad, e, hb, hc⟩ := h.2.2.2 (by rw [List.length_take] at hn; omega)
  refine ⟨ad, e, hb, fun j x hx => hc j x ?_⟩
  rw [List.getElem?_take] at hx
  split at hx
  · exact hx
  · cases hx
theorem Rd.drop (h : Rd w B A c xs) {k : Nat} (hk : k ≤ xs.length) : Rd w B (if c = k then A else A.map (·.add k)) (c - k) (xs.drop k) := by
  refine ⟨by rw [List.length_drop]; have := h.1; omega, by have := h.2.1; omega, fun x hx => h.lt x (List.mem_of_mem_drop hx), fun hn => ?_⟩
  rw [List.length_drop] at hn
  obtain ⟨ad, rfl, hb, hcell⟩ := h.2.2.2 (by omega)
  have := h.1
  rw [if_neg (by omega)]
  refine ⟨ad.add k, rfl, by rw [add_block]; exact hb, fun j u hu => ?_⟩
  rw [add_add]
  exact hcell _ u (by rw [← hu, List.getElem?_drop])
end

/-- The slice '.slice A xs.length c' is the call's own (from block 'base' on), of bytes (element type e), and reads as xs. -/
def Own (w : World) (base e : Nat) (A : Option Addr) (c : Nat) (xs : List Nat) : Prop :=
  w.ownsRow base e 1 (.slice A xs.length c) xs.length (bvs xs) ∧ ∀ x ∈ xs, x < 256

section
variable {w w' : World} {base e : Nat} {A : Option Addr} {c : Nat} {xs : List Nat}
theorem Own.form (h : Own w base e A c xs) : (A = none ∧ c = 0 ∧ xs = []) ∨ ∃ g, A = some ⟨g, 0, none⟩ ∧ base ≤ g ∧ g < w.heap.size ∧ xs.length ≤ c ∧ c ≤ maxLen := by
  rcases h.1.2 with ⟨hv, hn⟩ | ⟨g, cap, cur, hv, hb, hg, hnc, hcm, _⟩
  · injection hv with h1 h2 h3
    exact .inl ⟨h1, h3, List.eq_nil_of_length_eq_zero hn⟩
  · injection hv with h1 h2 h3
    refine .inr ⟨g, h1, hb, ?_, by omega, by omega⟩
    rcases Nat.lt_or_ge g w.heap.size with hlt | hge
    · exact hlt
    · rw [Array.getElem?_eq_none hge] at hg; cases hg
theorem Own.rd (h : Own w base e A c xs) : Rd w w.heap.size A c xs := by
  rcases h.form with ⟨rfl, rfl, rfl⟩ | ⟨g, rfl, hb, hlt, hc, hm⟩
  · exact Rd.nil_ _ _
  · refine ⟨hc, hm, h.2, fun _ => ⟨_, rfl, hlt, fun j x hx => ?_⟩⟩
    exact h.1.cells (g := g) rfl j (bv x) (by rw [bvs, List.getElem?_map, hx]; rfl)
theorem Own.nil_ (w : World) (base e : Nat) : Own w base e none 0 [] := ⟨World.ownsRow_nil _ _ _ _, by simp⟩
theorem Own.empty (w : World) (base e : Nat) (hb : base ≤ w.heap.size) : Own (w.alloc (.cells #[] e)) base e (some ⟨w.heap.size, 0, none⟩) 0 [] := by
  refine ⟨⟨by simp [bvs], .inr ⟨w.heap.size, 0, #[], rfl, hb, heap_alloc_new w _, by simp, by unfold maxLen; omega, by simp, by simp [bvs]⟩⟩, by simp⟩
theorem Own.alloc (h : Own w base e A c xs) (o : Obj) : Own (w.alloc o) base e A c xs := ⟨h.1.alloc o, h.2⟩
theorem Own.drew (h : Own w base e A c xs) : Own w.drew base e A c xs := h
theorem Own.less (h : Own w base e A c xs) {base' : Nat} (hb : base' ≤ base) : Own w base' e A c xs := by
  refine ⟨⟨h.1.1, ?_⟩, h.2⟩
  rcases h.1.2 with h0 | ⟨g, cap, cur, hv, hg, r⟩
  · exact .inl h0
  · exact .inr ⟨g, cap, cur, hv, by omega, r⟩
theorem Own.lt (h : Own w base e A c xs) : ∀ x ∈ xs, x < 256 := h.2
theorem Own.below (h : Own w base e A c xs) (hb : Below w.heap.size w w') : Own w' base e A c xs := by
  refine ⟨⟨h.1.1, ?_⟩, h.2⟩
  rcases h.1.2 with h0 | ⟨g, cap, cur, hv, hg, hh, r⟩
  · exact .inl h0
  · refine .inr ⟨g, cap, cur, hv, hg, ?_, r⟩
    rw [hb.block g ?_]
    · exact hh
    · rcases Nat.lt_or_ge g w.heap.size with hlt | hge
      · exact hlt
      · rw [Array.getElem?_eq_none hge] at hh; cases hh
end

/-! ### append -/
theorem run_app_nil {P : Program} (w : World) (base : Nat) (t ty e : TypeId) (i : TypeInfo) (ht : P.underlying t = some (.slice e)) (hi : P.info? e = some i)
    (v : Value) (n : Nat) (xs : List Value) (hown : w.ownsRow base e 1 v n xs) (c : Nat) : (Builtin.append_ #[t, t] ty #[v, .slice none 0 c]).run P w = .ok v w := by
  rcases hown.2 with ⟨rfl, rfl⟩ | ⟨g, cap, cur, rfl, _, _, hnc, _⟩
  · simp [Builtin.append_, run_underlying ht, sizeOf, typeInfo, hi, Builtin.lenOf, Builtin.firstCells]
  · simp [Builtin.append_, run_underlying ht, sizeOf, typeInfo, hi, Builtin.lenOf, Builtin.firstCells, hnc, storeCells]

/-- What a value looks like that owns a row of bytes. -/
theorem own_shape {w : World} {base e : Nat} {v : Value} {n : Nat} {xs : List Value} (h : w.ownsRow base e 1 v n xs) : ∃ A c, v = .slice A n c := by
  rcases h.2 with ⟨rfl, rfl⟩ | ⟨g, cap, cur, rfl, _⟩
  · exact ⟨_, _, rfl⟩
  · exact ⟨_, _, rfl⟩

theorem run_app {P : Program} (w : World) (base : Nat) (t ty e : TypeId) (ht : P.underlying t = some (.slice e)) (hi : (P.info? e).map (fun i => (i.zero, i.size, i.bytes)) = some (some (.int .u8 0), 1, 1))
    {A : Option Addr} {c : Nat} {xs : List Nat} (hown : Own w base e A c xs) {B : Nat} {A2 : Option Addr} {c2 : Nat} {ys : List Nat} (h2 : Rd w B A2 c2 ys)
    (hb : xs.length + ys.length ≤ 140737488355328) (hbase : base ≤ w.heap.size) :
    ∃ A' c' zs w', (Builtin.append_ #[t, t] ty #[.slice A xs.length c, .slice A2 ys.length c2]).run P w = .ok (.slice A' zs.length c') w' ∧ Hid (zs = xs ++ ys) ∧ Own w' base e A' c' zs ∧ w.grownBy w' (A.map (·.block)) := by
  obtain ⟨i, hi, hz, hs, hby⟩ := info_parts hi
  have hob : (Value.slice A xs.length c).ownBlock = A.map (·.block) := by cases A <;> rfl
  have hlt : ∀ x ∈ xs ++ ys, x < 256 := by
    intro x hx
    rcases List.mem_append.1 hx with hx | hx
    · exact hown.2 x hx
    · exact h2.lt x hx
  rcases A2 with _ | ad
  · have hy : ys = [] := by
      rcases Nat.eq_zero_or_pos ys.length with h0 | h0
      · exact List.eq_nil_of_length_eq_zero h0
      · obtain ⟨ad, h, _⟩ := h2.2.2.2 h0
        cases h
    subst hy
    exact ⟨A, c, xs, w, run_app_nil w base t ty e i ht hi _ _ _ hown.1 c2, by simp [Hid], hown, World.grownBy.refl w _⟩
  · have hc : ∀ j u, (bvs ys)[j]? = some u → w.cell? (ad.add j) = some u := by
      intro j u hu
      obtain ⟨x, hx, rfl⟩ := bvs_get hu
      obtain ⟨ad', h, _, hc⟩ := h2.2.2.2 (by have := (List.getElem?_eq_some_iff.1 hx).1; omega)
      injection h with h
      subst h
      exact hc j x hx
    obtain ⟨v', w', hr, ho, hg, _⟩ := run_append_own_at (P := P) w base t ty e i (.int .u8 0) 1 1 ht hi hz hs hby rfl (by decide) _ xs.length (bvs xs) hown.1 ad ys.length c2 (bvs ys) (by simp [bvs])
      hc bvs_one (by unfold maxLen; omega) (by omega) hbase
    obtain ⟨A', c', rfl⟩ := own_shape ho
    refine ⟨A', c', xs ++ ys, w', by rw [hr, List.length_append], rfl, ⟨?_, hlt⟩, by rw [← hob]; exact hg⟩
    rw [bvs_app, List.length_append]; exact ho

theorem wpList_app {P : Program} (w : World) {ops : Array Oper} {rest : List Oper} {o : Oper} {a : Act} {Q : Exit → Act → World → Prop} (hgd : o.guard = none) (s x : Operand) (t : TypeId)
    (ho : o.op = .call { callee := .builtin .append, args := #[s, x], argTypes := #[t, t] })
    (base : Nat) (e : TypeId) (ht : P.underlying t = some (.slice e)) (hi : (P.info? e).map (fun i => (i.zero, i.size, i.bytes)) = some (some (.int .u8 0), 1, 1))
    {A : Option Addr} {c n : Nat} {xs : List Nat} (hs : a.eval s = .slice A n c) (hn : n = xs.length) (hown : Own w base e A c xs) {B : Nat} {A2 : Option Addr} {c2 m : Nat} {ys : List Nat} (hx : a.eval x = .slice A2 m c2) (hm : m = ys.length) (h2 : Rd w B A2 c2 ys)
    (hb : xs.length + ys.length ≤ 140737488355328) (hbase : base ≤ w.heap.size)
    (h : ∀ A' c' zs w', Hid (zs = xs ++ ys) → Own w' base e A' c' zs → w.grownBy w' (A.map (·.block)) → wpList P ops Q rest (a.put o.dst (.slice A' zs.length c')) w') : wpList P ops Q (o :: rest) a w := by
  subst hn
  subst hm
  refine wpList_plain hgd fun K hK => ?_
  obtain ⟨A', c', zs, w', hr, hz, ho', hg⟩ := run_app (P := P) w base t o.type e ht hi hown h2 hb hbase
  unfold Oper.wp execOp
  simp only [ho, resolve, invoke, builtin, Sem.run_bind, Sem.run_pure, Result.andThen_ok, List.map_toArray, List.map_cons, List.map_nil, hs, hx, hr]
  exact hK _ _ (h A' c' zs w' hz ho' hg)

/-- One new byte, laid in a block of its own. -/
theorem Rd.one (w : World) (e : TypeId) (x : Nat) (hx : x < 256) : Rd (w.alloc (.cells #[.int .u8 (x : Int)] e)) (w.heap.size + 1) (some ⟨w.heap.size, 0, none⟩) 1 [x] := by
  refine ⟨by simp, by unfold maxLen; omega, by simpa using hx, fun _ => ⟨_, rfl, by simp, fun j y hj => ?_⟩⟩
  match j, hj with
  | 0, hj =>
    injection hj with hj
    subst hj
    exact World.news_of_block (heap_alloc_new w _) 0 _ rfl
theorem Rd.two (w : World) (e : TypeId) (x y : Nat) (hx : x < 256) (hy : y < 256) : Rd (w.alloc (.cells #[.int .u8 (x : Int), .int .u8 (y : Int)] e)) (w.heap.size + 1) (some ⟨w.heap.size, 0, none⟩) 2 [x, y] := by
  refine ⟨by simp, by unfold maxLen; omega, by simp [hx, hy], fun _ => ⟨_, rfl, by simp, fun j z hj => ?_⟩⟩
  match j, hj with
  | 0, hj =>
    injection hj with hj
    subst hj
    exact World.news_of_block (heap_alloc_new w _) 0 _ rfl
  | 1, hj =>
    injection hj with hj
    subst hj
    exact World.news_of_block (heap_alloc_new w _) 1 _ rfl
theorem grown_to_below {W w w' : World} {base e : Nat} {A : Option Addr} {c : Nat} {xs : List Nat} (h : Below W.heap.size W w) (hg : w.grownBy w' (A.map (·.block))) (ho : Own w base e A c xs) (hb : W.heap.size ≤ base) : Below W.heap.size W w' := by
  refine h.grown hg h.size fun k hk => ?_
  rcases ho.form with ⟨rfl, _, _⟩ | ⟨g, rfl, hg2, _⟩
  · cases hk
  · injection hk with hk
    subst hk
    show W.heap.size ≤ g
    omega
end Go.Proofs.Ythhmjfngldfmjaa
