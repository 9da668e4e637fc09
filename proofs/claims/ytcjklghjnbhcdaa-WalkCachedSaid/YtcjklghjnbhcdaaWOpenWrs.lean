/- An argument that is a slice of words to be written, opened to a list. -/
import Derived.Test.YtcjklghjnbhcdaaRows
import Derived.Test.YtcjklghjnbhcdaaWBoth
import Derived.ProofKit
import Derived.OpenShut
import Derived.Deep.Slices
import Derived.Deep.Fields
import Derived.Deep.Strs
import Derived.ChangeSame
import Derived.Lib.SmallJoins
namespace Go.Proofs.Ytcjklghjnbhcdaa
open Go.ChangeShapes Go.WideShapes Go.RowKit Go.Joins Go.Deep

theorem list_ofA {α : Type} {Q : Nat → α → Prop} : ∀ n, (∀ i, i < n → ∃ x, Q i x) → ∃ l : List α, l.length = n ∧ ∀ (j : Nat) x, l[j]? = some x → Q j x
  | 0, _ => ⟨[], rfl, fun j x h => by simp at h⟩
  | n + 1, h => by
    obtain ⟨l, h1, h2⟩ := list_ofA n fun i hi => h i (by omega)
    obtain ⟨x, hx⟩ := h n (by omega)
    refine ⟨l ++ [x], by simp [h1], fun j y hj => ?_⟩
    by_cases hjl : j < l.length
    · rw [List.getElem?_append_left hjl] at hj; exact h2 j y hj
    · rw [List.getElem?_append_right (by omega)] at hj
      have hj0 : j - l.length = 0 := by
        have := (List.getElem?_eq_some_iff.1 hj).1
        simp at this; omega
      rw [hj0] at hj
      simp at hj
      subst hj
      have : j = n := by omega
      rw [this]; exact hx

section
variable {H : Type} {enc : TypeId × Value → H} {w : World} {base : Nat} {spare : Nat → Bool} {held : Bool}
theorem cellsW : Try.prog.cellsOf 112 = 2 := by kernel_rfl
theorem cellsU : Try.prog.cellsOf 30 = 1 := by kernel_rfl

set_option maxRecDepth 100000 in
theorem open_w2 {fuel : Nat} {cs : List Value} {x : DataW H × List MemPlace} (h : DataW.trod enc Try.prog w base spare held fuel 112 cs = some x) (hl : cs.length = 2) : ∃ y : W2, cs = [y.c0, y.c1] ∧ y.k < 18446744073709551616 ∧ y.v < 18446744073709551616 := by
  match cs, hl with
  | [c0, c1], _ =>
    obtain ⟨y0, y1, n, _, _, g0, g1⟩ := trod_struct2 Try.underlying112 h
    rw [cellsU] at g0 g1
    obtain ⟨n0, e0, _, w0⟩ := DataW.trod_int Try.underlying30 g0
    obtain ⟨n1, e1, _, w1⟩ := DataW.trod_int Try.underlying30 g1
    simp at e0 e1
    obtain ⟨p0, p1⟩ := bd_u64 w0
    obtain ⟨q0, q1⟩ := bd_u64 w1
    subst e0 e1
    refine ⟨⟨n0.toNat, n1.toNat⟩, ?_, by simp only; omega, by simp only; omega⟩
    simp only [W2.c0, W2.c1]
    rw [Int.toNat_of_nonneg p0, Int.toNat_of_nonneg q0]

set_option maxRecDepth 100000 in
theorem open_wrs {r : Reach} {b0 : Nat} {v : Value} {d : DataW H} {p : List MemPlace} (hv : Value.okWide Try.prog w r b0 62 v) (h : DataW.Trod enc Try.prog w base spare held 62 v d p) : ∃ l : List W2, Wrs w v l := by
  obtain ⟨a0, n0, cap0, rfl⟩ := okWide_slice Try.underlying62 hv
  obtain ⟨fuel, hf⟩ := h
  rcases open_slice Try.underlying62 hf with ⟨h0, _⟩ | ⟨a, len, cap, m, n, D, Pl, hcs, _, hl, _, hmm, _, hi⟩
  · simp only [Value.cells, List.cons.injEq, and_true] at h0
    exact ⟨[], none, 0, h0, fun j x hj => by simp at hj⟩
  · simp only [Value.cells, List.cons.injEq, and_true] at hcs
    rw [hcs]
    have hlm : len ≤ m := by rw [hmm]; split <;> omega
    have hrow : ∀ i, i < len → ∃ x : W2, (x.k < 18446744073709551616 ∧ x.v < 18446744073709551616) ∧ ∀ j v, [x.c0, x.c1][j]? = some v → w.cell? ((a.add (i * 2)).add j) = some v := by
      intro i hil
      obtain ⟨cs', hc, ht'⟩ := hi i (by omega)
      rw [cellsW] at hc
      obtain ⟨_, hcl, hat⟩ := World.cells?_some hc
      obtain ⟨x, rfl, b0, b1⟩ := open_w2 ht' hcl
      refine ⟨x, ⟨b0, b1⟩, fun j v hj => ?_⟩
      have hj5 : j < 2 := (List.getElem?_eq_some_iff.1 hj).1
      rw [hat j hj5, hj]
    obtain ⟨l, hll, hlq⟩ := list_ofA len hrow
    refine ⟨l, some a, cap, by rw [hll], fun j x hj => ?_⟩
    obtain ⟨hbd, hq⟩ := hlq j x hj
    have h0 := hq 0 _ rfl
    have hb := World.block_lt_of_cell? w _ h0
    have h0l : 0 < l.length := by have := (List.getElem?_eq_some_iff.1 hj).1; omega
    have hfirst := (hlq 0 l[0] (List.getElem?_eq_getElem h0l)).2 0 _ rfl
    have hfirst' : w.cell? a = some l[0].c0 := by simpa [Addr.add] using hfirst
    have hspot : a.spot = none := by
      unfold World.cell? at hfirst'
      split at hfirst'
      · split at hfirst'
        · cases hfirst'
        · rename_i hs
          cases hq2 : a.spot
          · rfl
          · rw [hq2] at hs; simp at hs
      · cases hfirst'
    clear hfirst hfirst'
    obtain ⟨ab, ao, asp⟩ := a
    simp only at hspot
    subst hspot
    rw [Addr.add_lit, Addr.add_lit] at hb
    have h1 := hq 1 _ rfl
    simp only [Addr.add_lit] at h0 h1
    exact ⟨hbd.1, hbd.2, ab, ao, rfl, hb, by simpa using h0, h1⟩
end
end Go.Proofs.Ytcjklghjnbhcdaa
