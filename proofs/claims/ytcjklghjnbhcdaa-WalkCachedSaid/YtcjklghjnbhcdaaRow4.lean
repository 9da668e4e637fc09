/- Slices whose elements are structs of four cells: what a slice value holds; what is the call's own; appending. -/
import Derived.Test.YtcjklghjnbhcdaaExt
import Derived.ArgAppend
import Derived.Laws.Cells
import Derived.Deep.AppendLies
import Derived.Lib.Hide
namespace Go.Proofs.Ytcjklghjnbhcdaa
open Go.RowKit

theorem below_lt {W W' : World} (hB : Below W.heap.size W W') (b : Nat) [h : LtW b W] : LtW b W' := ⟨Nat.lt_of_lt_of_le h.lt hB.size⟩
theorem below_cell {W W' : World} (hB : Below W.heap.size W W') (b i : Nat) [h : LtW b W] {v : Value} (hc : W.cell? ⟨b, i, none⟩ = some v) : W'.cell? ⟨b, i, none⟩ = some v := (hB.cell (p := ⟨b, i, none⟩) h.lt).trans hc
theorem up_below {w W : World} (h : Up w.heap.size w W := by (repeat (first | (with_reducible exact Up.refl _) | with_reducible apply Up.drew | with_reducible apply Up.drewN | with_reducible apply Up.alloc | with_reducible apply Up.ext | ((with_reducible refine Up.setCell _ _ _ ?_ ?_); (first | (simp; done) | (simp; omega)))))) : Below w.heap.size w W := h.below

section
variable {α : Type} (enc : α → List Value)

/-- The cells from o on, in block b, are those of the list. -/
def RowAt (W : World) (b o : Nat) (l : List α) : Prop :=
  ∀ j x, l[j]? = some x → ∀ i v, (enc x)[i]? = some v → W.cell? ⟨b, o + j * 4 + i, none⟩ = some v

/-- A slice value holds a list. -/
def Has (W : World) (v : Value) (l : List α) : Prop :=
  (l = [] ∧ (v = .slice none 0 0 ∨ ∃ ad cap, v = .slice (some ad) 0 cap)) ∨ (l ≠ [] ∧ ∃ b o cap, v = .slice (some ⟨b, o, none⟩) l.length cap ∧ l.length ≤ cap ∧ b < W.heap.size ∧ RowAt enc W b o l)

/-- A slice value holds a list, in memory of the call's own. -/
def Own (W : World) (base : Nat) (v : Value) (l : List α) : Prop :=
  (v = .slice none 0 0 ∧ l = []) ∨ ∃ g o cap cur t, v = .slice (some ⟨g, o, none⟩) l.length cap ∧ base ≤ g ∧ l.length ≤ cap ∧ W.heap[g]? = some (.cells cur t (0, 0)) ∧ o + cap * 4 ≤ cur.size ∧ RowAt enc W g o l

variable {enc}
theorem RowAt.below {W W' : World} {b o : Nat} {l : List α} (h : RowAt enc W b o l) (hb : b < W.heap.size) (hB : Below W.heap.size W W') : RowAt enc W' b o l :=
  fun j x hj i v hv => (hB.cell (p := ⟨b, _, none⟩) hb).trans (h j x hj i v hv)
theorem Has.below {W W' : World} {v : Value} {l : List α} (h : Has enc W v l) (hB : Below W.heap.size W W') : Has enc W' v l := by
  rcases h with h | ⟨h0, b, o, cap, h1, h2, h3, h4⟩
  · exact .inl h
  · exact .inr ⟨h0, b, o, cap, h1, h2, Nat.lt_of_lt_of_le h3 hB.size, h4.below h3 hB⟩
theorem Own.below {W W' : World} {base : Nat} {v : Value} {l : List α} (h : Own enc W base v l) (hB : Below W.heap.size W W') : Own enc W' base v l := by
  rcases h with h | ⟨g, o, cap, cur, t, h1, h2, h3, h4, h5, h6⟩
  · exact .inl h
  · have hg : g < W.heap.size := (Array.getElem?_eq_some_iff.1 h4).1
    exact .inr ⟨g, o, cap, cur, t, h1, h2, h3, (hB.block g hg).trans h4, h5, h6.below hg hB⟩
theorem Own.has {W : World} {base : Nat} {v : Value} {l : List α} (h : Own enc W base v l) : Has enc W v l := by
  rcases h with ⟨rfl, rfl⟩ | ⟨g, o, cap, cur, t, h1, h2, h3, h4, h5, h6⟩
  · exact .inl ⟨rfl, .inl rfl⟩
  · by_cases hl : l = []
    · subst hl; exact .inl ⟨rfl, .inr ⟨_, _, h1⟩⟩
    · exact .inr ⟨hl, g, o, cap, h1, h3, (Array.getElem?_eq_some_iff.1 h4).1, h6⟩
theorem Own.mono {W : World} {base base' : Nat} {v : Value} {l : List α} (h : Own enc W base v l) (hb : base' ≤ base) : Own enc W base' v l := by
  rcases h with h | ⟨g, o, cap, cur, t, h1, h2, h3⟩
  · exact .inl h
  · exact .inr ⟨g, o, cap, cur, t, h1, by omega, h3⟩
theorem Has.ext {W : World} {v : Value} {l : List α} (x : World) (h : Has enc W v l) : Has enc (ext W x) v l := h.below (ext_below W x)
theorem Own.ext {W : World} {base : Nat} {v : Value} {l : List α} (x : World) (h : Own enc W base v l) : Own enc (ext W x) base v l := h.below (ext_below W x)

/-- The cells of a list, one behind another. -/
def flat (enc : α → List Value) (l : List α) : List Value := l.flatMap enc
theorem flat_len (h4 : ∀ x, (enc x).length = 4) (l : List α) : (flat enc l).length = l.length * 4 := by
  induction l with
  | nil => rfl
  | cons x l ih => simp only [flat, List.flatMap_cons, List.length_append, h4] at *; simp only [ih, List.length_cons]; omega
theorem flat_get (h4 : ∀ x, (enc x).length = 4) (l : List α) (j i : Nat) (x : α) (hj : l[j]? = some x) (hi : i < 4) : (flat enc l)[j * 4 + i]? = (enc x)[i]? := by
  induction l generalizing j with
  | nil => simp at hj
  | cons y l ih =>
    cases j with
    | zero =>
      simp only [List.getElem?_cons_zero, Option.some.injEq] at hj
      subst hj
      simp only [flat, List.flatMap_cons, Nat.zero_mul, Nat.zero_add]
      rw [List.getElem?_append_left (by rw [h4]; exact hi)]
    | succ j =>
      simp only [List.getElem?_cons_succ] at hj
      have := ih j hj
      simp only [flat, List.flatMap_cons] at this ⊢
      rw [List.getElem?_append_right (by rw [h4]; omega), h4, ← this]
      congr 1; omega
/-- The same, read the other way. -/
theorem flat_at (h4 : ∀ x, (enc x).length = 4) (l : List α) (n : Nat) (u : Value) (h : (flat enc l)[n]? = some u) : ∃ x, l[n / 4]? = some x ∧ (enc x)[n % 4]? = some u := by
  have hn : n < l.length * 4 := by rw [← flat_len h4 l]; exact (List.getElem?_eq_some_iff.1 h).1
  have hj : n / 4 < l.length := by omega
  refine ⟨l[n / 4], List.getElem?_eq_getElem hj, ?_⟩
  rw [← flat_get h4 l (n / 4) (n % 4) _ (List.getElem?_eq_getElem hj) (by omega), ← h]
  congr 1; omega
theorem RowAt.flat (h4 : ∀ x, (enc x).length = 4) {W : World} {b o : Nat} {l : List α} (h : RowAt enc W b o l) : ∀ j u, (flat enc l)[j]? = some u → W.cell? ⟨b, o + j, none⟩ = some u := by
  intro j u hj
  obtain ⟨x, hx, hu⟩ := flat_at h4 l j u hj
  have := h (j / 4) x hx (j % 4) u hu
  rw [← this]
  congr 2; omega
theorem RowAt.of_flat (h4 : ∀ x, (enc x).length = 4) {W : World} {b o : Nat} {l : List α} (h : ∀ j u, (Go.Proofs.Ytcjklghjnbhcdaa.flat enc l)[j]? = some u → W.cell? ⟨b, o + j, none⟩ = some u) : RowAt enc W b o l := by
  intro j x hx i v hv
  have hi : i < 4 := by rw [← h4 x]; exact (List.getElem?_eq_some_iff.1 hv).1
  rw [Nat.add_assoc]
  exact h _ _ ((flat_get h4 l j i x hx hi).trans hv)
theorem flat_append (l m : List α) : flat enc (l ++ m) = flat enc l ++ flat enc m := by simp [flat]

theorem below_setCells (b : Nat) : ∀ (vs : List Value) (o : Nat) (w : World) (B : Nat), B ≤ b → Below B w (w.setCells b o vs)
  | [], _, _, _, _ => Below.refl _ _
  | v :: r, o, w, B, h => ((Below.refl B w).setCell (p := ⟨b, o, none⟩) h v).trans (below_setCells b r (o + 1) _ B h)
theorem heap_setCells (b : Nat) (t : TypeId) : ∀ (vs : List Value) (o : Nat) (w : World) (cur : Array Value), w.heap[b]? = some (.cells cur t (0, 0)) → ∃ cur', (w.setCells b o vs).heap[b]? = some (.cells cur' t (0, 0)) ∧ cur'.size = cur.size
  | [], _, _, cur, h => ⟨cur, h, rfl⟩
  | v :: r, o, w, cur, h => by
    have h1 : (w.setCell ⟨b, o, none⟩ v).heap[b]? = some (.cells (cur.setIfInBounds o v) t (0, 0)) := by
      simp [World.setCell, Array.getElem?_modify, h]
    obtain ⟨cur', h2, h3⟩ := heap_setCells b t r (o + 1) _ _ h1
    exact ⟨cur', h2, by rw [h3]; simp⟩

theorem Own.of_row {W : World} {base : Nat} {e : TypeId} {v : Value} {l : List α} (h4 : ∀ x, (enc x).length = 4) (h : W.ownsRow base e 4 v l.length (flat enc l)) : Own enc W base v l := by
  obtain ⟨h1, h2⟩ := h
  rcases h2 with ⟨rfl, h3⟩ | ⟨g, cap, cur, rfl, hg, hh, hn, _, hs, ht⟩
  · exact .inl ⟨rfl, List.eq_nil_of_length_eq_zero h3⟩
  · refine .inr ⟨g, 0, cap, cur, e, rfl, hg, hn, hh, by omega, RowAt.of_flat h4 fun j u hj => ?_⟩
    have hjl : j < l.length * 4 := by rw [← flat_len h4 l]; exact (List.getElem?_eq_some_iff.1 hj).1
    have e1 : W.cell? ⟨g, 0 + j, none⟩ = cur[0 + j]? := by simp [World.cell?, hh]
    rw [e1, Nat.zero_add]
    rw [← ht, List.getElem?_take] at hj
    rw [if_pos hjl] at hj
    simpa using hj

/-- 'append' onto a slice of the call's own, wherever it begins: the run. -/
theorem run_append4 (h4 : ∀ x, (enc x).length = 4) (h1c : ∀ x, ∀ u ∈ enc x, u.oneCell' = true) {P : Program} {w : World} (t ty : TypeId)
    (e : TypeId) (i : TypeInfo) (z : Value) (bytes : Nat) (e1 : P.underlying t = some (.slice e)) (e2 : P.info? e = some i) (e3 : i.zero = some z) (e4 : i.size = 4) (e5 : i.bytes = bytes) (e6 : z.cells.size = 4)
    (W0 : World) (hW : Up W0.heap.size W0 w) (v : Value) (l m : List α) (hO : Own enc w W0.heap.size v l) (ad : Addr) (c : Nat)
    (hm : ∀ j u, (flat enc m)[j]? = some u → w.cell? (ad.add j) = some u) (b1 : l.length + m.length ≤ maxLen) (b2 : (l.length + m.length) * bytes ≤ 140737488355328) :
    ∃ v' y, (Builtin.append_ #[t, t] ty #[v, .slice (some ad) m.length c]).run P w = .ok v' (Go.Proofs.Ytcjklghjnbhcdaa.ext W0 y) ∧ Own enc (Go.Proofs.Ytcjklghjnbhcdaa.ext W0 y) W0.heap.size v' (l ++ m) := by
  have hcells : ∀ u ∈ flat enc m, u.oneCell' = true := fun u hu => by
    simp only [flat, List.mem_flatMap] at hu
    obtain ⟨y, _, hy⟩ := hu
    exact h1c y u hy
  have hdone : ∀ v' w', (Builtin.append_ #[t, t] ty #[v, .slice (some ad) m.length c]).run P w = .ok v' w' → w'.ownsRow w.heap.size e 4 v' (l.length + m.length) (flat enc l ++ flat enc m) → w.grownBy w' none → ∃ v' y, (Builtin.append_ #[t, t] ty #[v, .slice (some ad) m.length c]).run P w = .ok v' (Go.Proofs.Ytcjklghjnbhcdaa.ext W0 y) ∧ Own enc (Go.Proofs.Ytcjklghjnbhcdaa.ext W0 y) W0.heap.size v' (l ++ m) := fun v' w' hr ho hg => by
    have hB : Below W0.heap.size W0 w' := hW.below.grown hg hW.le (fun k h => by cases h)
    obtain ⟨y, rfl⟩ := ext_of hB
    refine ⟨v', y, hr, Own.mono (Own.of_row (e := e) h4 ?_) hW.le⟩
    rw [List.length_append, flat_append]; exact ho
  rcases hO with ⟨rfl, rfl⟩ | ⟨g, off, cap, cur, te, rfl, hg, hle, hh, hsz, hR⟩
  · obtain ⟨v', w', hr, ho, hgr, _⟩ := run_append_own (P := P) w w.heap.size t ty e i z 4 bytes e1 e2 e3 e4 e5 e6 (by decide) (.slice none 0 0) 0 [] (World.ownsRow_nil w _ e 4) ad m.length c (flat enc m) (flat_len h4 m) hm hcells (by simpa using b1) (by simpa using b2) (Nat.le_refl _)
    exact hdone v' w' hr (by simpa [flat] using ho) hgr
  · have hgl : g < w.heap.size := (Array.getElem?_eq_some_iff.1 hh).1
    by_cases hr : l.length + m.length ≤ cap
    · have hroom := run_append_room_cells (P := P) w t ty e i e1 e2 g off l.length cap ad m.length c (flat enc m) (by rw [e4]; exact flat_len h4 m) hm hcells hr
        (fun j hj => by
          rw [flat_len h4] at hj
          have hlt : off + l.length * i.size + j < cur.size := by rw [e4]; omega
          simp [World.cell?, hh, hlt])
        (fun j hj => by simp [World.frozen?, hh])
      rw [e4] at hroom
      have hB : Below W0.heap.size W0 (w.setCells g (off + l.length * 4) (flat enc m)) := hW.below.trans (below_setCells _ _ _ _ _ hg)
      obtain ⟨y, hy⟩ := ext_of hB
      obtain ⟨cur', hh', hs'⟩ := heap_setCells g te (flat enc m) (off + l.length * 4) w cur hh
      rw [hy] at hh' hroom
      refine ⟨_, y, hroom, .inr ⟨g, off, cap, cur', te, by rw [List.length_append], hg, by rw [List.length_append]; exact hr, hh', by omega, RowAt.of_flat h4 fun j u hj => ?_⟩⟩
      rw [← hy]
      rw [flat_append] at hj
      by_cases hjl : j < (flat enc l).length
      · rw [List.getElem?_append_left hjl] at hj
        rw [World.cell?_setCells_out g _ _ _ _ (fun _ _ => .inl (by rw [flat_len h4] at hjl; simp; omega))]
        exact hR.flat h4 j u hj
      · rw [List.getElem?_append_right (by omega)] at hj
        have hk : j - (flat enc l).length < (flat enc m).length := (List.getElem?_eq_some_iff.1 hj).1
        have := World.cell?_setCells_in g (flat enc m) (off + l.length * 4) w (fun j hj => by
          rw [flat_len h4] at hj
          have hlt : off + l.length * 4 + j < cur.size := by omega
          simp [World.cell?, hh, hlt]) _ hk
        rw [List.getElem?_eq_getElem hk] at hj
        rw [hj] at this
        rw [← this, flat_len h4]
        rw [flat_len h4] at hjl
        congr 2; omega
    · obtain ⟨v', w', hrun, r1, r2⟩ := run_append_arg_grows (P := P) w t ty e i z 4 bytes e1 e2 e3 e4 e5 e6 (by decide) ⟨g, off, none⟩ l.length cap (flat enc l) (flat_len h4 l) (fun j u hj => by rw [Addr.add_lit]; exact hR.flat h4 j u hj) ad m.length c (flat enc m) (flat_len h4 m) hm (by omega) b1 b2
      exact hdone v' w' hrun r1 r2

theorem wp_append4 (h4 : ∀ x, (enc x).length = 4) (h1c : ∀ x, ∀ u ∈ enc x, u.oneCell' = true) {P : Program} {w : World} {o : Oper} {a : Act} {Kk : Act → World → Prop} {Q : Exit → Act → World → Prop}
    (s x : Operand) (t : TypeId) (hop : o.op = Op.call { callee := Callee.builtin Builtin.append, args := #[s, x], argTypes := #[t, t] })
    (e : TypeId) (i : TypeInfo) (z : Value) (bytes : Nat) (e1 : P.underlying t = some (.slice e)) (e2 : P.info? e = some i) (e3 : i.zero = some z) (e4 : i.size = 4) (e5 : i.bytes = bytes) (e6 : z.cells.size = 4)
    (W0 : World) (hW : Up W0.heap.size W0 w) (v : Value) (l m : List α) (hs : a.eval s = v) (hO : Own enc w W0.heap.size v l) (ad : Addr) (c : Nat) (hx : a.eval x = .slice (some ad) m.length c)
    (hm : ∀ j u, (flat enc m)[j]? = some u → w.cell? (ad.add j) = some u) (b1 : l.length + m.length ≤ maxLen) (b2 : (l.length + m.length) * bytes ≤ 140737488355328)
    (K : ∀ v' y, Own enc (Go.Proofs.Ytcjklghjnbhcdaa.ext W0 y) W0.heap.size v' (l ++ m) → Kk (a.put o.dst v') (Go.Proofs.Ytcjklghjnbhcdaa.ext W0 y)) : o.wp P a w Kk Q := by
  obtain ⟨v', y, hr, ho⟩ := run_append4 h4 h1c (P := P) (w := w) t o.type e i z bytes e1 e2 e3 e4 e5 e6 W0 hW v l m hO ad c hm b1 b2
  unfold Oper.wp execOp
  simp only [hop, resolve, invoke, builtin, Sem.run_bind, Sem.run_pure, Result.andThen_ok, List.map_toArray, List.map_cons, List.map_nil, hs, hx, hr]
  exact K v' y ho

/-- 'append' onto a slice of the call's own, wherever it begins. -/
theorem append4 (h4 : ∀ x, (enc x).length = 4) (h1c : ∀ x, ∀ u ∈ enc x, u.oneCell' = true) {P : Program} {w : World} {ops : Array Oper} {rest : List Oper} {o : Oper} {a : Act} {Q : Exit → Act → World → Prop}
    (hgd : o.guard = none) (s x : Operand) (t : TypeId) (hop : o.op = Op.call { callee := Callee.builtin Builtin.append, args := #[s, x], argTypes := #[t, t] })
    (e : TypeId) (i : TypeInfo) (z : Value) (bytes : Nat) (e1 : P.underlying t = some (.slice e)) (e2 : P.info? e = some i) (e3 : i.zero = some z) (e4 : i.size = 4) (e5 : i.bytes = bytes) (e6 : z.cells.size = 4)
    (W0 : World) (hW : Up W0.heap.size W0 w) (v : Value) (l m : List α) (hs : a.eval s = v) (hO : Own enc w W0.heap.size v l) (ad : Addr) (c : Nat) (hx : a.eval x = .slice (some ad) m.length c)
    (hm : ∀ j u, (flat enc m)[j]? = some u → w.cell? (ad.add j) = some u) (b1 : l.length + m.length ≤ maxLen) (b2 : (l.length + m.length) * bytes ≤ 140737488355328)
    (K : ∀ v' y, Own enc (Go.Proofs.Ytcjklghjnbhcdaa.ext W0 y) W0.heap.size v' (l ++ m) → wpList P ops Q rest (a.put o.dst v') (Go.Proofs.Ytcjklghjnbhcdaa.ext W0 y)) :
    wpList P ops Q (o :: rest) a w :=
  wpList_plain hgd fun _ hK => wp_append4 h4 h1c s x t hop e i z bytes e1 e2 e3 e4 e5 e6 W0 hW v l m hs hO ad c hx hm b1 b2 fun v' y ho => hK _ _ (K v' y ho)

/-- The same at a step of a region that draws its order. -/
theorem step_append4 (h4 : ∀ x, (enc x).length = 4) (h1c : ∀ x, ∀ u ∈ enc x, u.oneCell' = true) {P : Program} {w : World} {ops : Array Oper} {o : Oper} {a : Act} {Kk : Act → World → Prop} {Q : Exit → Act → World → Prop} {F : Prop}
    (hgd : o.guard = none) (s x : Operand) (t : TypeId) (hop : o.op = Op.call { callee := Callee.builtin Builtin.append, args := #[s, x], argTypes := #[t, t] })
    (e : TypeId) (i : TypeInfo) (z : Value) (bytes : Nat) (e1 : P.underlying t = some (.slice e)) (e2 : P.info? e = some i) (e3 : i.zero = some z) (e4 : i.size = 4) (e5 : i.bytes = bytes) (e6 : z.cells.size = 4)
    (W0 : World) (hW : Up W0.heap.size W0 w) (v : Value) (l m : List α) (hs : a.eval s = v) (hO : Own enc w W0.heap.size v l) (ad : Addr) (c : Nat) (hx : a.eval x = .slice (some ad) m.length c)
    (hm : ∀ j u, (flat enc m)[j]? = some u → w.cell? (ad.add j) = some u) (b1 : l.length + m.length ≤ maxLen) (b2 : (l.length + m.length) * bytes ≤ 140737488355328)
    (K : ∀ v' y, Own enc (Go.Proofs.Ytcjklghjnbhcdaa.ext W0 y) W0.heap.size v' (l ++ m) → Kk (a.put o.dst v') (Go.Proofs.Ytcjklghjnbhcdaa.ext W0 y)) :
    if Region.wanted o (yielded ops a.tmps) = true then Oper.wp P o a w Kk Q else F := by
  have hw : Region.wanted o (yielded ops a.tmps) = true := by simp [Region.wanted, hgd]
  rw [if_pos hw]
  exact wp_append4 h4 h1c s x t hop e i z bytes e1 e2 e3 e4 e5 e6 W0 hW v l m hs hO ad c hx hm b1 b2 K

/-- A slice of the call's own that is not nil. -/
structure OwnS (enc : α → List Value) (W : World) (base g o cap : Nat) (l : List α) : Prop where
  base : base ≤ g
  len : l.length ≤ cap
  blk : ∃ cur t, W.heap[g]? = some (.cells cur t (0, 0)) ∧ o + cap * 4 ≤ cur.size
  row : RowAt enc W g o l
theorem OwnS.own {W : World} {base g o cap : Nat} {l : List α} (h : OwnS enc W base g o cap l) : Own enc W base (.slice (some ⟨g, o, none⟩) l.length cap) l := by
  obtain ⟨cur, t, h1, h2⟩ := h.blk
  exact .inr ⟨g, o, cap, cur, t, rfl, h.base, h.len, h1, h2, h.row⟩
theorem Own.shape {W : World} {base : Nat} {v : Value} {l : List α} (h : Own enc W base v l) : (v = .slice none 0 0 ∧ l = []) ∨ ∃ g o cap, v = .slice (some ⟨g, o, none⟩) l.length cap ∧ OwnS enc W base g o cap l := by
  rcases h with h | ⟨g, o, cap, cur, t, h1, h2, h3, h4, h5, h6⟩
  · exact .inl h
  · exact .inr ⟨g, o, cap, h1, h2, h3, ⟨cur, t, h4, h5⟩, h6⟩
theorem OwnS.lt {W : World} {base g o cap : Nat} {l : List α} (h : OwnS enc W base g o cap l) : g < W.heap.size := by
  obtain ⟨cur, t, h1, h2⟩ := h.blk
  exact (Array.getElem?_eq_some_iff.1 h1).1
theorem OwnS.below {W W' : World} {base g o cap : Nat} {l : List α} (h : OwnS enc W base g o cap l) (hB : Below W.heap.size W W') : OwnS enc W' base g o cap l := by
  obtain ⟨cur, t, h1, h2⟩ := h.blk
  exact ⟨h.base, h.len, ⟨cur, t, (hB.block g h.lt).trans h1, h2⟩, h.row.below h.lt hB⟩
theorem OwnS.frozen {W : World} {base g o cap : Nat} {l : List α} (h : OwnS enc W base g o cap l) (i : Nat) : W.frozen? ⟨g, i, none⟩ = false := by
  obtain ⟨cur, t, h1, h2⟩ := h.blk
  simp [World.frozen?, h1]
theorem OwnS.some {W : World} {base g o cap : Nat} {l : List α} (h : OwnS enc W base g o cap l) (i : Nat) (hi : i < cap * 4) : (W.cell? ⟨g, o + i, none⟩).isSome = true := by
  obtain ⟨cur, t, h1, h2⟩ := h.blk
  have : o + i < cur.size := by omega
  simp [World.cell?, h1, this]
theorem OwnS.put {W : World} {base g o cap : Nat} {l : List α} (h4 : ∀ x, (enc x).length = 4) (h : OwnS enc W base g o cap l) (k : Nat) (x : α) (hk : k < l.length) : OwnS enc (W.setCells g (o + k * 4) (enc x)) base g o cap (l.set k x) := by
  obtain ⟨cur, t, h1, h2⟩ := h.blk
  obtain ⟨cur', h3, h5⟩ := heap_setCells g t (enc x) (o + k * 4) W cur h1
  have hlen := h.len
  refine ⟨h.base, by rw [List.length_set]; exact hlen, ⟨cur', t, h3, by omega⟩, ?_⟩
  intro j y hj i v hv
  rw [List.getElem?_set] at hj
  have hi : i < 4 := by rw [← h4 y]; exact (List.getElem?_eq_some_iff.1 hv).1
  by_cases e : k = j
  · subst e
    rw [if_pos rfl, if_pos hk] at hj
    cases hj
    have hlt : i < (enc x).length := by rw [h4]; exact hi
    have := World.cell?_setCells_in g (enc x) (o + k * 4) W (fun j hj => by
      rw [h4] at hj
      have := h.some (k * 4 + j) (by omega)
      rwa [← Nat.add_assoc] at this) i hlt
    rw [this, ← hv, List.getElem?_eq_getElem hlt]
  · rw [if_neg e] at hj
    rw [World.cell?_setCells_out g _ _ _ _ (fun _ _ => by rw [h4]; simp; omega)]
    exact h.row j y hj i v hv
theorem OwnS.put4 {W : World} {base g o cap : Nat} {l : List α} (h4 : ∀ x, (enc x).length = 4) (h : OwnS enc W base g o cap l) (k : Nat) (x : α) (hk : k < l.length) {a0 a1 a2 a3 : Value} (hx : enc x = [a0, a1, a2, a3]) :
    OwnS enc ((((W.setCell ⟨g, o + k * 4, none⟩ a0).setCell ⟨g, o + k * 4 + 1, none⟩ a1).setCell ⟨g, o + k * 4 + 2, none⟩ a2).setCell ⟨g, o + k * 4 + 3, none⟩ a3) base g o cap (l.set k x) := by
  have := h.put h4 k x hk
  rw [hx] at this
  exact this

theorem own_end {w W : World} (h : Up w.heap.size w W) {v : Value} {l : List α} (r : Value → Ending) (ho : Own enc W w.heap.size v l) : ∃ v' y, r v = r v' ∧ W = Go.Proofs.Ytcjklghjnbhcdaa.ext w y ∧ Own enc (Go.Proofs.Ytcjklghjnbhcdaa.ext w y) w.heap.size v' l := by
  obtain ⟨y, rfl⟩ := h.to
  exact ⟨v, y, rfl, rfl, ho⟩
theorem OwnS.drop {W : World} {base g o cap : Nat} {l : List α} (h : OwnS enc W base g o cap l) (n : Nat) (hn : n ≤ l.length) : OwnS enc W base g (o + n * 4) (cap - n) (l.drop n) := by
  obtain ⟨cur, t, h1, h2⟩ := h.blk
  have hl := h.len
  refine ⟨h.base, by rw [List.length_drop]; omega, ⟨cur, t, h1, by omega⟩, ?_⟩
  intro j x hj i v hv
  rw [List.getElem?_drop] at hj
  rw [← h.row (n + j) x hj i v hv]
  congr 2; omega
theorem run_clear4 (h4 : ∀ x, (enc x).length = 4) {P : Program} (t e ty : TypeId) (z : Value) (e1 : P.underlying t = some (.slice e)) (e2 : ∀ w, (zeroValue e).run P w = .ok z w) (e3 : z.cells.size = 4) (e4 : ∀ u ∈ z.cells.toList, u.oneCell' = true)
    {W : World} {base g o cap : Nat} {l : List α} (h : OwnS enc W base g o cap l) (m : Nat) (hm : m < l.length) :
    ∃ W', (Builtin.clear_ #[t] ty #[.slice (some ⟨g, o + m * 4, none⟩) (l.length - m) (cap - m)]).run P W = .ok (.tuple #[]) W' ∧ Below base W W' ∧ OwnS enc W' base g o cap (l.take m) := by
  obtain ⟨cur, t0, h1, h2⟩ := h.blk
  have hlen := h.len
  have hz : (Builtin.zeroCells z.cells (l.length - m)).toList.length = (l.length - m) * 4 := by
    rw [Array.length_toList, size_zeroCells, e3]
  have hone : ∀ v ∈ (Builtin.zeroCells z.cells (l.length - m)).toList, v.oneCell' = true := by
    intro v hv
    simp only [Builtin.zeroCells, Array.toList_map, List.mem_map] at hv
    obtain ⟨k, _, rfl⟩ := hv
    have hlt : k % z.cells.size < z.cells.size := Nat.mod_lt _ (by omega)
    rw [getElem!_pos z.cells _ hlt]
    exact e4 _ (by simp)
  have hst := run_storeCells_cells (P := P) g (o + m * 4) (Builtin.zeroCells z.cells (l.length - m)).toList 0 W
    (fun j hj => by
      rw [hz] at hj
      have hlt : o + m * 4 + j < cur.size := by omega
      simp [World.cell?, h1, hlt])
    (fun j hj => by simp [World.frozen?, h1]) hone
  obtain ⟨cur', h3, h5⟩ := heap_setCells g t0 (Builtin.zeroCells z.cells (l.length - m)).toList (o + m * 4 + 0) W cur h1
  refine ⟨_, ?_, below_setCells g (Builtin.zeroCells z.cells (l.length - m)).toList (o + m * 4 + 0) W base h.base, h.base, by rw [List.length_take]; omega, ⟨cur', t0, h3, by omega⟩, ?_⟩
  · obtain ⟨n, hn⟩ : ∃ n, l.length - m = n + 1 := ⟨l.length - m - 1, by omega⟩
    rw [hn] at hst ⊢
    simp [Builtin.clear_, run_underlying e1, e2, hst, Result.andThen]
  · intro j x hj i v hv
    rw [List.getElem?_take] at hj
    split at hj
    · rename_i hjm
      have hi : i < (enc x).length := (List.getElem?_eq_some_iff.1 hv).1
      rw [World.cell?_setCells_out g _ _ _ _ (fun _ _ => .inl ?_)]
      · exact h.row j x hj i v hv
      · rw [h4] at hi; simp; omega
    · cases hj
theorem append4_none {P : Program} {w : World} {ops : Array Oper} {rest : List Oper} {o : Oper} {a : Act} {Q : Exit → Act → World → Prop}
    (hgd : o.guard = none) (s x : Operand) (t : TypeId) (hop : o.op = Op.call { callee := Callee.builtin Builtin.append, args := #[s, x], argTypes := #[t, t] })
    (e : TypeId) (i : TypeInfo) (e1 : P.underlying t = some (.slice e)) (e2 : P.info? e = some i)
    (base : Nat) (v : Value) (l : List α) (hs : a.eval s = v) (hO : Own enc w base v l) (hx : a.eval x = .slice none 0 0)
    (K : wpList P ops Q rest (a.put o.dst v) w) : wpList P ops Q (o :: rest) a w := by
  have hrun : (Builtin.append_ #[t, t] o.type #[v, .slice none 0 0]).run P w = .ok v w := by
    rcases hO with ⟨rfl, rfl⟩ | ⟨g, off, cap, cur, te, rfl, hg, hle, hh, hsz, hR⟩
    · simp [Builtin.append_, run_underlying e1, sizeOf, typeInfo, e2, Builtin.lenOf, Builtin.firstCells]
    · simp [Builtin.append_, run_underlying e1, sizeOf, typeInfo, e2, Builtin.lenOf, Builtin.firstCells, hle, storeCells]
  refine wpList_plain hgd fun K' hK => ?_
  unfold Oper.wp
  simp [execOp, hop, resolve, invoke, builtin, hs, hx, hrun, Result.andThen]
  exact hK _ _ K
end

/-- The place of the first element that is such, or -1. -/
def idx {α : Type} (p : α → Bool) (l : List α) : Int := if l.findIdx p < l.length then (l.findIdx p : Int) else -1
theorem idx_hit {α : Type} {p : α → Bool} {l : List α} {j : Nat} {x : α} (hx : l[j]? = some x) (h : p x = true) (hb : ∀ (i : Nat) y, i < j → l[i]? = some y → p y = false) : idx p l = (j : Int) := by
  obtain ⟨hj, rfl⟩ := List.getElem?_eq_some_iff.1 hx
  have e : l.findIdx p = j := by
    rw [List.findIdx_eq hj]
    exact ⟨h, fun i hi => hb i _ hi (List.getElem?_eq_getElem (by omega))⟩
  rw [idx, e, if_pos hj]
theorem idx_miss {α : Type} {p : α → Bool} {l : List α} (hb : ∀ (i : Nat) y, l[i]? = some y → p y = false) : idx p l = -1 := by
  rw [idx, if_neg]
  intro h
  have := List.findIdx_getElem (w := h)
  rw [hb _ _ (List.getElem?_eq_getElem h)] at this
  cases this
theorem any_idx {α : Type} (p : α → Bool) (l : List α) : l.any p = decide (0 ≤ idx p l) := by
  rw [Bool.eq_iff_iff, decide_eq_true_eq, idx, List.any_eq_true, ← List.findIdx_lt_length]
  split <;> rename_i h <;> simp [h]
end Go.Proofs.Ytcjklghjnbhcdaa
