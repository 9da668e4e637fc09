/- What a call that hands back a row of its own ends in. -/
import Derived.Test.YtcjklghjnbhcdaaRow4
namespace Go.Proofs.Ytcjklghjnbhcdaa
open Go.RowKit
theorem own_fin {α : Type} {enc : α → List Value} {w W : World} {v : Value} {l : List α} (r : Value → Ending) (ho : Own enc W w.heap.size v l)
    (h : Up w.heap.size w W := by (repeat (first | (with_reducible exact Up.refl _) | with_reducible apply Up.drew | with_reducible apply Up.drewN | with_reducible apply Up.alloc | with_reducible apply Up.ext | ((with_reducible refine Up.setCell _ _ _ ?_ ?_); (first | (simp; done) | (simp; omega)))))) :
    ∃ v' y, r v = r v' ∧ W = Go.Proofs.Ytcjklghjnbhcdaa.ext w y ∧ Own enc (Go.Proofs.Ytcjklghjnbhcdaa.ext w y) w.heap.size v' l := own_end h r ho
theorem has_ext' {α : Type} {enc : α → List Value} {w x y : World} {v : Value} {l : List α} (h : Has enc (ext w x) v l) : Has enc (ext w (exty w x y)) v l := by
  rw [← ext_ext']; exact h.ext y
theorem has_exd' {α : Type} {enc : α → List Value} {w x : World} {v : Value} {l : List α} (h : Has enc w v l) : Has enc (ext w (exd w x)) v l := by
  rw [← ext_drew']; exact Has.ext x (show Has enc w.drew v l from h.below (Below.drew (Below.refl _ _)))
theorem has_drew {α : Type} {enc : α → List Value} {w : World} {v : Value} {l : List α} (h : Has enc w v l) : Has enc w.drew v l := h.below (Below.drew (Below.refl _ _))
theorem has_alloc {α : Type} {enc : α → List Value} {w : World} {o : Obj} {v : Value} {l : List α} (h : Has enc w v l) : Has enc (w.alloc o) v l := h.below (Below.alloc (Below.refl _ _) (Nat.le_refl _) o)
end Go.Proofs.Ytcjklghjnbhcdaa
