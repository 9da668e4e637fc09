/- An argument that is an array of four whole numbers, opened. -/
import Derived.Test.YtoibeflmldiehaaRows
import Derived.ProofKit
import Derived.OpenShut
namespace Go.Proofs.Ytoibeflmldiehaa
open Go.ChangeShapes Go.WideShapes Go.RowKit
section
variable {H : Type} {enc : TypeId × Value → H} {P : Program} {w : World} {base : Nat} {spare : Nat → Bool} {held : Bool}
theorem open_arr4 {k : IntKind} {r : Reach} {b0 : Nat} {t e : TypeId} {v : Value} {d : DataW H} {p : List MemPlace} (ht : P.underlying t = some (.array 4 e)) (he : P.underlying e = some (.int k)) (hC1 : P.cellsOf t = 4) (hC2 : P.cellsOf e = 1)
    (hv : Value.okWide P w r b0 t v) (h : DataW.Trod enc P w base spare held t v d p) :
    ∃ n0 n1 n2 n3 : Int, v = .agg #[.int k n0, .int k n1, .int k n2, .int k n3] ∧ (Lit.int k n0).wf = true ∧ (Lit.int k n1).wf = true ∧ (Lit.int k n2).wf = true ∧ (Lit.int k n3).wf = true := by
  unfold Value.okWide at hv
  simp only [ht] at hv
  obtain ⟨cs, rfl, hsz, _⟩ := hv
  obtain ⟨l⟩ := cs
  match l, hsz.trans hC1 with
  | [c0, c1, c2, c3], _ =>
    obtain ⟨fuel, hf⟩ := h
    obtain ⟨xs, m, _, _, _, hlen, hg⟩ := DataW.trod_array ht hf
    match xs, hlen with
    | [y0, y1, y2, y3], _ =>
      have g0 := hg 0 (by decide)
      have g1 := hg 1 (by decide)
      have g2 := hg 2 (by decide)
      have g3 := hg 3 (by decide)
      simp only [hC2, Value.cells] at g0 g1 g2 g3
      simp at g0 g1 g2 g3
      obtain ⟨n0, e0, _, w0⟩ := DataW.trod_int he g0
      obtain ⟨n1, e1, _, w1⟩ := DataW.trod_int he g1
      obtain ⟨n2, e2, _, w2⟩ := DataW.trod_int he g2
      obtain ⟨n3, e3, _, w3⟩ := DataW.trod_int he g3
      simp at e0 e1 e2 e3
      subst e0 e1 e2 e3
      exact ⟨n0, n1, n2, n3, rfl, w0, w1, w2, w3⟩
end
end Go.Proofs.Ytoibeflmldiehaa
