/- An argument that is a slice of structs of four cells, opened to a list. -/
import Derived.Test.YtcjklghjnbhcdaaRows
import Derived.Test.YtcjklghjnbhcdaaWEntry
import Derived.ProofKit
import Derived.OpenShut
import Derived.Deep.Slices
import Derived.Deep.Fields
import Derived.ChangeSame
import Derived.Lib.SmallJoins
namespace Go.Proofs.Ytcjklghjnbhcdaa
open Go.ChangeShapes Go.WideShapes Go.RowKit Go.Joins Go.Deep

theorem list_of {α : Type} {Q : Nat → α → Prop} : ∀ n, (∀ i, i < n → ∃ x, Q i x) → ∃ l : List α, l.length = n ∧ ∀ (j : Nat) x, l[j]? = some x → Q j x
  | 0, _ => ⟨[], rfl, fun j x h => by simp at h⟩
  | n + 1, h => by
    obtain ⟨l, h1, h2⟩ := list_of n fun i hi => h i (by omega)
    obtain ⟨x, hx⟩ := h n (by omega)
    refine ⟨l ++ [x], by simp [h1], fun j y hj => ?_⟩
    by_cases hjl : j < l.length
    · rw [List.getElem?_append_left hjl] at hj; exact h2 j y hj
    · rw [List.getElem?_append_right (by omega)] at hj
      have hj0 : j - l.length = 0 := by
        have := (List.getElem?_eq_some_iff.1 hj).1
        simp at this; omega
      rw [hj0] at hj
      simp at hj
      subst hj
      have : j = n := by omega
      rw [this]; exact hx

section
variable {H : Type} {enc : TypeId × Value → H} {P : Program} {w : World} {base : Nat} {spare : Nat → Bool} {held : Bool}
theorem open_rows4 {r : Reach} {b0 : Nat} {t e : TypeId} {f0 f1 f2 f3 : Field} {v : Value} {d : DataW H} {p : List MemPlace} (ht : P.underlying t = some (.slice e)) (he : P.underlying e = some (.struct #[f0, f1, f2, f3])) (hone : oneCellFields P #[f0, f1, f2, f3] = true) (hC : P.cellsOf e = 4)
    (hv : Value.okWide P w r b0 t v) (h : DataW.Trod enc P w base spare held t v d p) {α : Type} (enc4 : α → List Value) (h4 : ∀ x, (enc4 x).length = 4)
    (hx : ∀ n (c0 c1 c2 c3 : Value) (y0 y1 y2 y3 : DataW H × List MemPlace), DataW.trod enc P w base spare held n f0.type [c0] = some y0 → DataW.trod enc P w base spare held n f1.type [c1] = some y1 → DataW.trod enc P w base spare held n f2.type [c2] = some y2 → DataW.trod enc P w base spare held n f3.type [c3] = some y3 → ∃ x : α, enc4 x = [c0, c1, c2, c3]) :
    ∃ l : List α, Has enc4 w v l := by
  obtain ⟨a0, n0, cap0, rfl⟩ := okWide_slice ht hv
  obtain ⟨fuel, hf⟩ := h
  rcases open_slice ht hf with ⟨h0, _⟩ | ⟨a, len, cap, m, n, D, Pl, hcs, _, hl, _, hmm, _, hi⟩
  · simp only [Value.cells, List.cons.injEq, and_true] at h0
    exact ⟨[], .inl ⟨rfl, .inl h0⟩⟩
  · simp only [Value.cells, List.cons.injEq, and_true] at hcs
    rw [hcs]
    have hlm : len ≤ m := by rw [hmm]; split <;> omega
    have hrow : ∀ i, i < len → ∃ x : α, ∀ j v, (enc4 x)[j]? = some v → w.cell? ((a.add (i * 4)).add j) = some v := by
      intro i hil
      obtain ⟨cs', hc, ht'⟩ := hi i (by omega)
      rw [hC] at hc
      obtain ⟨_, hcl, hat⟩ := World.cells?_some hc
      match cs', hcl with
      | [c0, c1, c2, c3], _ =>
        obtain ⟨y0, y1, y2, y3, n', _, _, g0, g1, g2, g3⟩ := trod_struct4 he ht'
        obtain ⟨o0, k0⟩ := hone_of hone 0 f0 rfl
        obtain ⟨o1, k1⟩ := hone_of hone 1 f1 rfl
        obtain ⟨o2, k2⟩ := hone_of hone 2 f2 rfl
        obtain ⟨o3, k3⟩ := hone_of hone 3 f3 rfl
        obtain ⟨x, hx'⟩ := hx n' c0 c1 c2 c3 y0 y1 y2 y3 (by simpa [o0, k0] using g0) (by simpa [o1, k1] using g1) (by simpa [o2, k2] using g2) (by simpa [o3, k3] using g3)
        refine ⟨x, fun j v hj => ?_⟩
        rw [hx'] at hj
        have hj4 : j < 4 := (List.getElem?_eq_some_iff.1 hj).1
        rw [hat j hj4, hj]
    by_cases hl0 : len = 0
    · subst hl0
      exact ⟨[], .inl ⟨rfl, .inr ⟨_, _, rfl⟩⟩⟩
    · obtain ⟨l, hll, hlq⟩ := list_of len hrow
      have h0l : 0 < l.length := by omega
      have hfirst := hlq 0 l[0] (List.getElem?_eq_getElem h0l) 0 ((enc4 l[0])[0]'(by rw [h4]; decide)) (List.getElem?_eq_getElem (by rw [h4]; decide))
      have hfirst' : w.cell? a = some ((enc4 l[0])[0]'(by rw [h4]; decide)) := by simpa [Addr.add] using hfirst
      have hblk := World.block_lt_of_cell? w _ hfirst'
      have hspot : a.spot = none := by
        unfold World.cell? at hfirst'
        split at hfirst'
        · split at hfirst'
          · cases hfirst'
          · rename_i hs
            cases hq : a.spot
            · rfl
            · rw [hq] at hs; simp at hs
        · cases hfirst'
      obtain ⟨ab, ao, asp⟩ := a
      simp only at hspot hblk
      subst hspot
      refine ⟨l, .inr ⟨fun e => hl0 (by rw [← hll, e]; rfl), ab, ao, cap, by rw [hll], by omega, hblk, fun j x hj i v hv => ?_⟩⟩
      have := hlq j x hj i v hv
      rw [Addr.add_lit, Addr.add_lit] at this
      exact this
end

set_option maxRecDepth 100000 in
theorem open_tlbs {H : Type} {enc : TypeId × Value → H} {w : World} {base : Nat} {spare : Nat → Bool} {held : Bool} {r : Reach} {b0 : Nat} {v : Value} {d : DataW H} {p : List MemPlace}
    (hv : Value.okWide Try.prog w r b0 36 v) (h : DataW.Trod enc Try.prog w base spare held 36 v d p) : ∃ l : List E, Has E.enc w v l := by
  refine open_rows4 Try.underlying36 Try.underlying56 (by kernel_rfl) (by kernel_rfl) hv h E.enc E.enc4 ?_
  intro n c0 c1 c2 c3 y0 y1 y2 y3 g0 g1 g2 g3
  obtain ⟨n0, e0, _, _⟩ := DataW.trod_int Try.underlying3 g0
  obtain ⟨n1, e1, _, _⟩ := DataW.trod_int Try.underlying30 g1
  obtain ⟨n2, e2, _, _⟩ := DataW.trod_int Try.underlying3 g2
  obtain ⟨n3, e3, _⟩ := DataW.trod_bool Try.underlying4 g3
  simp only [List.cons.injEq, and_true] at e0 e1 e2 e3
  subst e0 e1 e2 e3
  exact ⟨⟨n0, n1, n2, n3⟩, rfl⟩

set_option maxRecDepth 100000 in
theorem open_steps {H : Type} {enc : TypeId × Value → H} {w : World} {base : Nat} {spare : Nat → Bool} {held : Bool} {r : Reach} {b0 : Nat} {v : Value} {d : DataW H} {p : List MemPlace}
    (hv : Value.okWide Try.prog w r b0 37 v) (h : DataW.Trod enc Try.prog w base spare held 37 v d p) : ∃ l : List S, Has S.enc w v l := by
  refine open_rows4 Try.underlying37 Try.underlying54 (by kernel_rfl) (by kernel_rfl) hv h S.enc S.enc4 ?_
  intro n c0 c1 c2 c3 y0 y1 y2 y3 g0 g1 g2 g3
  obtain ⟨n0, e0, _, _⟩ := DataW.trod_int Try.underlying3 g0
  obtain ⟨n1, e1, _, _⟩ := DataW.trod_int Try.underlying29 g1
  obtain ⟨n2, e2, _, _⟩ := DataW.trod_int Try.underlying30 g2
  obtain ⟨n3, e3, _, _⟩ := DataW.trod_int Try.underlying3 g3
  simp only [List.cons.injEq, and_true] at e0 e1 e2 e3
  subst e0 e1 e2 e3
  exact ⟨⟨n0, n1, n2, n3⟩, rfl⟩
end Go.Proofs.Ytcjklghjnbhcdaa
