/- Worlds that changed in some blocks alone. -/
import Derived.Test.YtcjklghjnbhcdaaRow4
namespace Go.Proofs.Ytcjklghjnbhcdaa
open Go.RowKit

/-- W' is as W was but for new blocks and for the blocks in F. -/
structure Chg (F : Nat → Prop) (W W' : World) : Prop where
  os : W'.os = W.os
  tape : W'.tape = W.tape
  output : W'.output = W.output
  size : W.heap.size ≤ W'.heap.size
  block : ∀ k, k < W.heap.size → ¬ F k → W'.heap[k]? = W.heap[k]?
theorem Chg.refl (F : Nat → Prop) (W : World) : Chg F W W := ⟨rfl, rfl, rfl, Nat.le_refl _, fun _ _ _ => rfl⟩
theorem Chg.trans {F F' : Nat → Prop} {W W' W'' : World} (h : Chg F W W') (h' : Chg F' W' W'') (hF : ∀ k, k < W.heap.size → F' k → F k) : Chg F W W'' :=
  ⟨h'.os.trans h.os, h'.tape.trans h.tape, h'.output.trans h.output, Nat.le_trans h.size h'.size, fun k hk hn => (h'.block k (Nat.lt_of_lt_of_le hk h.size) fun h2 => hn (hF k hk h2)).trans (h.block k hk hn)⟩
theorem Chg.of_below {F : Nat → Prop} {W W' : World} (h : Below W.heap.size W W') : Chg F W W' := ⟨h.os, h.tape, h.output, h.size, fun k hk _ => h.block k hk⟩
theorem Chg.below {F : Nat → Prop} {W W' : World} {B : Nat} (h : Chg F W W') (hF : ∀ k, F k → B ≤ k) (hB : B ≤ W.heap.size) : Below B W W' :=
  ⟨h.os, h.tape, h.output, h.size, fun k hk => h.block k (Nat.lt_of_lt_of_le hk hB) fun hf => by have := hF k hf; omega⟩
theorem Chg.cell {F : Nat → Prop} {W W' : World} (h : Chg F W W') (b i : Nat) (hb : b < W.heap.size) (hn : ¬ F b) : W'.cell? ⟨b, i, none⟩ = W.cell? ⟨b, i, none⟩ := World.cell?_of_block (h.block b hb hn)
theorem Chg.mono {F F' : Nat → Prop} {W W' : World} (h : Chg F W W') (hF : ∀ k, k < W.heap.size → F k → F' k) : Chg F' W W' := ⟨h.os, h.tape, h.output, h.size, fun k hk hn => h.block k hk fun hf => hn (hF k hk hf)⟩
theorem Chg.alloc {F : Nat → Prop} {W W' : World} (h : Chg F W W') (o : Obj) : Chg F W (W'.alloc o) := h.trans (F' := F) (Chg.of_below ((Below.refl _ _).alloc (Nat.le_refl _) o)) (fun _ _ h => h)
theorem Chg.drew {F : Nat → Prop} {W W' : World} (h : Chg F W W') : Chg F W W'.drew := ⟨h.os, h.tape, h.output, h.size, h.block⟩
theorem Chg.ext {F : Nat → Prop} {W W' : World} (h : Chg F W W') (x : World) : Chg F W (ext W' x) := h.trans (F' := F) (Chg.of_below (ext_below W' x)) (fun _ _ h => h)
theorem Chg.set {F : Nat → Prop} {W W' : World} (h : Chg F W W') (b i : Nat) (v : Value) (hb : F b ∨ W.heap.size ≤ b) : Chg F W (W'.setCell ⟨b, i, none⟩ v) := by
  refine ⟨h.os, h.tape, h.output, by simpa using h.size, fun k hk hn => ?_⟩
  rw [Below.heap_setCell W' ⟨b, i, none⟩ v k (fun e => by
    rcases hb with hb | hb
    · exact hn (e ▸ hb)
    · simp only at e; omega)]
  exact h.block k hk hn
theorem Chg.of_grown {W W' : World} {g : Option Nat} (h : W.grownBy W' g) : Chg (fun b => g = some b) W W' := by
  refine ⟨h.os, h.tape, h.output, h.size, fun k hk hn => ?_⟩
  exact h.block k hk (fun e => hn e.symm)

theorem heap_setCells_other (g k : Nat) (hk : k ≠ g) : ∀ (vs : List Value) (o : Nat) (w : World), (w.setCells g o vs).heap[k]? = w.heap[k]?
  | [], _, _ => rfl
  | u :: r, o, w => (heap_setCells_other g k hk r (o + 1) (w.setCell ⟨g, o, none⟩ u)).trans (Below.heap_setCell w ⟨g, o, none⟩ u k hk)

section
variable {α : Type} {enc : α → List Value}
/-- Own at whatever base, carried over a change elsewhere. -/
theorem Own.chg {F : Nat → Prop} {W W' : World} {base : Nat} {v : Value} {l : List α} (h : Own enc W base v l) (hC : Chg F W W') (hv : ∀ g, v.ownBlock = some g → ¬ F g) : Own enc W' base v l := by
  rcases h with h | ⟨g, o, cap, cur, t, h1, h2, h3, h4, h5, h6⟩
  · exact .inl h
  · have hg : g < W.heap.size := (Array.getElem?_eq_some_iff.1 h4).1
    have hn : ¬ F g := hv g (by rw [h1]; rfl)
    refine .inr ⟨g, o, cap, cur, t, h1, h2, h3, (hC.block g hg hn).trans h4, h5, ?_⟩
    intro j x hj i u hu
    exact (hC.cell g _ hg hn).trans (h6 j x hj i u hu)
theorem Own.lt {W : World} {base : Nat} {v : Value} {l : List α} (h : Own enc W base v l) : ∀ g, v.ownBlock = some g → g < W.heap.size := by
  rcases h with ⟨rfl, _⟩ | ⟨g, o, cap, cur, t, rfl, h2, h3, h4, h5, h6⟩
  · intro g hg; cases hg
  · intro g' hg; cases hg; exact (Array.getElem?_eq_some_iff.1 h4).1
theorem Own.zero {W : World} {base : Nat} {v : Value} {l : List α} (h : Own enc W base v l) : Own enc W 0 v l := h.mono (Nat.zero_le _)

/-- 'append' onto a row: what it changes, and where its result lies. -/
theorem run_append4f (h4 : ∀ x, (enc x).length = 4) (h1c : ∀ x, ∀ u ∈ enc x, u.oneCell' = true) {P : Program} {w : World} (t ty : TypeId)
    (e : TypeId) (i : TypeInfo) (z : Value) (bytes : Nat) (e1 : P.underlying t = some (.slice e)) (e2 : P.info? e = some i) (e3 : i.zero = some z) (e4 : i.size = 4) (e5 : i.bytes = bytes) (e6 : z.cells.size = 4)
    (v : Value) (l m : List α) (hO : Own enc w 0 v l) (ad : Addr) (c : Nat)
    (hm : ∀ j u, (flat enc m)[j]? = some u → w.cell? (ad.add j) = some u) (b1 : l.length + m.length ≤ maxLen) (b2 : (l.length + m.length) * bytes ≤ 140737488355328) :
    ∃ v' W', (Builtin.append_ #[t, t] ty #[v, .slice (some ad) m.length c]).run P w = .ok v' W' ∧ Own enc W' 0 v' (l ++ m) ∧ Chg (fun b => v.ownBlock = some b) w W' ∧ (∀ g, v'.ownBlock = some g → v.ownBlock = some g ∨ w.heap.size ≤ g) := by
  by_cases hin : ∃ g o cap, v = .slice (some ⟨g, o, none⟩) l.length cap ∧ l.length + m.length ≤ cap ∧ ∃ cur t, w.heap[g]? = some (.cells cur t (0, 0)) ∧ o + cap * 4 ≤ cur.size ∧ RowAt enc w g o l
  · obtain ⟨g, o, cap, rfl, hr, cur, t', hh, hsz, hR⟩ := hin
    have hO' : OwnS enc w g g o cap l := ⟨Nat.le_refl _, by omega, ⟨cur, t', hh, hsz⟩, hR⟩
    have hcells : ∀ u ∈ flat enc m, u.oneCell' = true := fun u hu => by
      simp only [flat, List.mem_flatMap] at hu
      obtain ⟨y, _, hy⟩ := hu
      exact h1c y u hy
    have hroom := run_append_room_cells (P := P) w t ty e i e1 e2 g o l.length cap ad m.length c (flat enc m) (by rw [e4]; exact flat_len h4 m) hm hcells hr
      (fun j hj => by
        rw [flat_len h4] at hj
        have hlt : o + l.length * i.size + j < cur.size := by rw [e4]; omega
        simp [World.cell?, hh, hlt])
      (fun j hj => by simp [World.frozen?, hh])
    rw [e4] at hroom
    obtain ⟨cur', hh', hs'⟩ := heap_setCells g t' (flat enc m) (o + l.length * 4) w cur hh
    have hB : Below g w (w.setCells g (o + l.length * 4) (flat enc m)) := below_setCells _ _ _ _ _ (Nat.le_refl _)
    have hblk : ∀ k, k ≠ g → (w.setCells g (o + l.length * 4) (flat enc m)).heap[k]? = w.heap[k]? := fun k hk => heap_setCells_other g k hk _ _ _
    refine ⟨_, _, hroom, .inr ⟨g, o, cap, cur', t', by rw [List.length_append], Nat.zero_le _, by rw [List.length_append]; exact hr, hh', by omega, RowAt.of_flat h4 fun j u hj => ?_⟩, ⟨hB.os, hB.tape, hB.output, hB.size, fun k hk hn => hblk k (fun e => hn (by rw [e]; rfl))⟩, fun g' hg' => .inl hg'⟩
    rw [flat_append] at hj
    by_cases hjl : j < (flat enc l).length
    · rw [List.getElem?_append_left hjl] at hj
      rw [World.cell?_setCells_out g _ _ _ _ (fun _ _ => .inl (by rw [flat_len h4] at hjl; simp; omega))]
      exact hR.flat h4 j u hj
    · rw [List.getElem?_append_right (by omega)] at hj
      have hk : j - (flat enc l).length < (flat enc m).length := (List.getElem?_eq_some_iff.1 hj).1
      have := World.cell?_setCells_in g (flat enc m) (o + l.length * 4) w (fun j hj => by
        rw [flat_len h4] at hj
        have hlt : o + l.length * 4 + j < cur.size := by omega
        simp [World.cell?, hh, hlt]) _ hk
      rw [List.getElem?_eq_getElem hk] at hj
      rw [hj] at this
      rw [← this, flat_len h4]
      rw [flat_len h4] at hjl
      congr 2; omega
  · have hcells : ∀ u ∈ flat enc m, u.oneCell' = true := fun u hu => by
      simp only [flat, List.mem_flatMap] at hu
      obtain ⟨y, _, hy⟩ := hu
      exact h1c y u hy
    have hdone : ∀ v' w', (Builtin.append_ #[t, t] ty #[v, .slice (some ad) m.length c]).run P w = .ok v' w' → w'.ownsRow w.heap.size e 4 v' (l.length + m.length) (flat enc l ++ flat enc m) → w.grownBy w' none → ∃ v' W', (Builtin.append_ #[t, t] ty #[v, .slice (some ad) m.length c]).run P w = .ok v' W' ∧ Own enc W' 0 v' (l ++ m) ∧ Chg (fun b => v.ownBlock = some b) w W' ∧ (∀ g, v'.ownBlock = some g → v.ownBlock = some g ∨ w.heap.size ≤ g) := fun v' w' hr ho hg => by
      refine ⟨v', w', hr, Own.mono (base := w.heap.size) (Own.of_row (e := e) h4 ?_) (Nat.zero_le _), (Chg.of_grown hg).mono (fun k _ h => by cases h), fun g hg' => .inr (ownBlock_le ho g hg')⟩
      rw [List.length_append, flat_append]; exact ho
    rcases hO with ⟨rfl, rfl⟩ | ⟨g, off, cap, cur, te, rfl, hg, hle, hh, hsz, hR⟩
    · obtain ⟨v', w', hr, ho, hgr, _⟩ := run_append_own (P := P) w w.heap.size t ty e i z 4 bytes e1 e2 e3 e4 e5 e6 (by decide) (.slice none 0 0) 0 [] (World.ownsRow_nil w _ e 4) ad m.length c (flat enc m) (flat_len h4 m) hm hcells (by simpa using b1) (by simpa using b2) (Nat.le_refl _)
      exact hdone v' w' hr (by simpa [flat] using ho) hgr
    · have hr : ¬ l.length + m.length ≤ cap := fun hr => hin ⟨g, off, cap, rfl, hr, cur, te, hh, hsz, hR⟩
      obtain ⟨v', w', hrun, r1, r2⟩ := run_append_arg_grows (P := P) w t ty e i z 4 bytes e1 e2 e3 e4 e5 e6 (by decide) ⟨g, off, none⟩ l.length cap (flat enc l) (flat_len h4 l) (fun j u hj => by rw [Addr.add_lit]; exact hR.flat h4 j u hj) ad m.length c (flat enc m) (flat_len h4 m) hm (by omega) b1 b2
      exact hdone v' w' hrun r1 r2
end
end Go.Proofs.Ytcjklghjnbhcdaa
