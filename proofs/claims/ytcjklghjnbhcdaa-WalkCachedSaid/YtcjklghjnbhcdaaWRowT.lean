/- A store into a row is a new row. -/
import Derived.Test.YtcjklghjnbhcdaaWRowS
namespace Go.Proofs.Ytcjklghjnbhcdaa
open Go.RowKit

instance neW_lt (m : Nat) (w : World) [h : LtW m w] : NeW m w.heap.size := ⟨Nat.ne_of_lt h.lt⟩
instance neW_gt (m : Nat) (w : World) [h : LtW m w] : NeW w.heap.size m := ⟨(Nat.ne_of_lt h.lt).symm⟩
@[go_sem high] theorem set_to_row (n i : Nat) (v : Value) (w : World) (c : Array Value) (t : TypeId) [h : RowW n w c t] : w.setCell ⟨n, i, none⟩ v = w.setRow n (c.setIfInBounds i v) := by
  have hr := h.row
  unfold World.setRow World.setCell
  congr 1
  apply Array.ext_getElem?
  intro k
  simp only [Array.getElem?_modify]
  by_cases hk : n = k
  · subst hk
    simp [hr]
  · simp [hk]
@[go_sem] theorem setRow_setRow_tc (n : Nat) (w : World) (c c' : Array Value) : (w.setRow n c).setRow n c' = w.setRow n c' := by
  unfold World.setRow
  congr 1
  apply Array.ext_getElem?
  intro k
  simp only [Array.getElem?_modify]
  by_cases hk : n = k
  · subst hk
    cases h : w.heap[n]? with
    | none => simp
    | some o => cases o <;> simp
  · simp [hk]
@[go_sem] theorem cell_setRow_ne (n m i : Nat) (w : World) (c : Array Value) [hn : NeW m n] : (w.setRow n c).cell? ⟨m, i, none⟩ = w.cell? ⟨m, i, none⟩ := by
  have := hn.ne
  unfold World.setRow World.cell?
  simp only [Array.getElem?_modify]
  rw [if_neg (fun e => this e.symm)]
instance (priority := low) row_setRow_ne (n m : Nat) (w : World) (c c2 : Array Value) (t : TypeId) [h : RowW m w c t] [hn : NeW m n] : RowW m (w.setRow n c2) c t := ⟨by
  have := hn.ne
  unfold World.setRow
  simp only [Array.getElem?_modify]
  rw [if_neg (fun e => this e.symm)]; exact h.row⟩
end Go.Proofs.Ytcjklghjnbhcdaa
