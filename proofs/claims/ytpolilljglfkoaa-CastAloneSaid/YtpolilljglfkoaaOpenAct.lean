/- An argument that is a slice of acts, opened to a list. -/
import Derived.Test.YtpolilljglfkoaaRows
import Derived.Test.YtpolilljglfkoaaAct
import Derived.ProofKit
import Derived.OpenShut
import Derived.Deep.Slices
import Derived.Deep.Fields
import Derived.Deep.Strs
import Derived.ChangeSame
import Derived.Lib.SmallJoins
namespace Go.Proofs.Ytpolilljglfkoaa
open Go.ChangeShapes Go.WideShapes Go.RowKit Go.Joins Go.Deep

theorem list_ofA {α : Type} {Q : Nat → α → Prop} : ∀ n, (∀ i, i < n → ∃ x, Q i x) → ∃ l : List α, l.length = n ∧ ∀ (j : Nat) x, l[j]? = some x → Q j x
  | 0, _ => ⟨[], rfl, fun j x h => by simp at h⟩
  | n + 1, h => by
    obtain ⟨l, h1, h2⟩ := list_ofA n fun i hi => h i (by omega)
    obtain ⟨x, hx⟩ := h n (by omega)
    refine ⟨l ++ [x], by simp [h1], fun j y hj => ?_⟩
    by_cases hjl : j < l.length
    · rw [List.getElem?_append_left hjl] at hj; exact h2 j y hj
    · rw [List.getElem?_append_right (by omega)] at hj
      have hj0 : j - l.length = 0 := by
        have := (List.getElem?_eq_some_iff.1 hj).1
        simp at this; omega
      rw [hj0] at hj
      simp at hj
      subst hj
      have : j = n := by omega
      rw [this]; exact hx

section
variable {H : Type} {enc : TypeId × Value → H} {w : World} {base : Nat} {spare : Nat → Bool} {held : Bool}
theorem cells3 : Try.prog.cellsOf 3 = 1 := by kernel_rfl
theorem cells35 : Try.prog.cellsOf 35 = 3 := by kernel_rfl
theorem cells37 : Try.prog.cellsOf 37 = 5 := by kernel_rfl
theorem cells32 : Try.prog.cellsOf 32 = 1 := by kernel_rfl
theorem cells33 : Try.prog.cellsOf 33 = 1 := by kernel_rfl

set_option maxRecDepth 100000 in
theorem open_act {fuel : Nat} {cs : List Value} {x : DataW H × List MemPlace} (h : DataW.trod enc Try.prog w base spare held fuel 37 cs = some x) (hl : cs.length = 5) : ∃ y : A5, cs = [y.c0, y.c1, y.c2, y.c3, y.c4] ∧ (Lit.int .u64 y.p).wf = true := by
  match cs, hl with
  | [c0, c1, c2, c3, c4], _ =>
    obtain ⟨y0, y1, y2, n, _, _, g0, g1, g2⟩ := trod_struct3 Try.underlying37 h
    rw [cells3] at g0 g1
    rw [cells35] at g2
    obtain ⟨z0, z1, z2, m, _, _, k0, k1, k2⟩ := trod_struct3 Try.underlying35 g2
    rw [cells32] at k0
    rw [cells3] at k1
    rw [cells33] at k2
    obtain ⟨n0, e0, _, _⟩ := DataW.trod_int Try.underlying3 g0
    obtain ⟨n1, e1, _, _⟩ := DataW.trod_int Try.underlying3 g1
    obtain ⟨n2, e2, _, _⟩ := DataW.trod_int Try.underlying32 k0
    obtain ⟨n3, e3, _, _⟩ := DataW.trod_int Try.underlying3 k1
    obtain ⟨n4, e4, _, w4⟩ := DataW.trod_int Try.underlying33 k2
    simp at e0 e1 e2 e3 e4
    subst e0 e1 e2 e3 e4
    exact ⟨⟨n0, n1, n2, n3, n4⟩, rfl, w4⟩

set_option maxRecDepth 100000 in
theorem open_acts {r : Reach} {b0 : Nat} {v : Value} {d : DataW H} {p : List MemPlace} (hv : Value.okWide Try.prog w r b0 22 v) (h : DataW.Trod enc Try.prog w base spare held 22 v d p) : ∃ l : List A5, Acts w v l := by
  obtain ⟨a0, n0, cap0, rfl⟩ := okWide_slice Try.underlying22 hv
  obtain ⟨fuel, hf⟩ := h
  rcases open_slice Try.underlying22 hf with ⟨h0, _⟩ | ⟨a, len, cap, m, n, D, Pl, hcs, _, hl, _, hmm, _, hi⟩
  · simp only [Value.cells, List.cons.injEq, and_true] at h0
    exact ⟨[], none, 0, h0, fun j x hj => by simp at hj⟩
  · simp only [Value.cells, List.cons.injEq, and_true] at hcs
    rw [hcs]
    have hlm : len ≤ m := by rw [hmm]; split <;> omega
    have hrow : ∀ i, i < len → ∃ x : A5, ∀ j v, [x.c0, x.c1, x.c2, x.c3, x.c4][j]? = some v → w.cell? ((a.add (i * 5)).add j) = some v := by
      intro i hil
      obtain ⟨cs', hc, ht'⟩ := hi i (by omega)
      rw [cells37] at hc
      obtain ⟨_, hcl, hat⟩ := World.cells?_some hc
      obtain ⟨x, rfl, _⟩ := open_act ht' hcl
      refine ⟨x, fun j v hj => ?_⟩
      have hj5 : j < 5 := (List.getElem?_eq_some_iff.1 hj).1
      rw [hat j hj5, hj]
    obtain ⟨l, hll, hlq⟩ := list_ofA len hrow
    refine ⟨l, some a, cap, by rw [hll], fun j x hj => ?_⟩
    have hq := hlq j x hj
    have h0 := hq 0 _ rfl
    have hb := World.block_lt_of_cell? w _ h0
    have h0l : 0 < l.length := by have := (List.getElem?_eq_some_iff.1 hj).1; omega
    have hfirst := hlq 0 l[0] (List.getElem?_eq_getElem h0l) 0 _ rfl
    have hfirst' : w.cell? a = some l[0].c0 := by simpa [Addr.add] using hfirst
    have hspot : a.spot = none := by
      unfold World.cell? at hfirst'
      split at hfirst'
      · split at hfirst'
        · cases hfirst'
        · rename_i hs
          cases hq2 : a.spot
          · rfl
          · rw [hq2] at hs; simp at hs
      · cases hfirst'
    clear hfirst hfirst'
    obtain ⟨ab, ao, asp⟩ := a
    simp only at hspot
    subst hspot
    rw [Addr.add_lit, Addr.add_lit] at hb
    have h1 := hq 1 _ rfl
    have h2 := hq 2 _ rfl
    have h3 := hq 3 _ rfl
    have h4 := hq 4 _ rfl
    simp only [Addr.add_lit] at h0 h1 h2 h3 h4
    exact ⟨ab, ao, rfl, hb, by simpa using h0, h1, h2, h3, h4⟩
end
end Go.Proofs.Ytpolilljglfkoaa
