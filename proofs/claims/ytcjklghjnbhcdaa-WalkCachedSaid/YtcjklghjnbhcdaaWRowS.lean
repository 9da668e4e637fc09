/- Rows behind single stores. -/
import Derived.Test.YtcjklghjnbhcdaaWRow
import Derived.Laws.CopyOwn
namespace Go.Proofs.Ytcjklghjnbhcdaa
open Go.RowKit

class NeW (n m : Nat) : Prop where
  ne : n ≠ m
instance row_set (n i : Nat) (v : Value) (w : World) (c : Array Value) (t : TypeId) [h : RowW n w c t] : RowW n (w.setCell ⟨n, i, none⟩ v) (c.setIfInBounds i v) t := ⟨by
  simp only [World.setCell, Array.getElem?_modify, if_true, h.row]
  rfl⟩
instance (priority := low) row_set_ne (n m i : Nat) (v : Value) (w : World) (c : Array Value) (t : TypeId) [h : RowW n w c t] [hn : NeW n m] : RowW n (w.setCell ⟨m, i, none⟩ v) c t := ⟨by
  have := hn.ne
  simp only [World.setCell, Array.getElem?_modify]
  rw [if_neg (fun e => this e.symm)]; exact h.row⟩
instance row_setRow (n : Nat) (w : World) (c c2 : Array Value) (t : TypeId) [h : RowW n w c t] : RowW n (w.setRow n c2) c2 t := ⟨setRow_heap w n c c2 t (0, 0) h.row⟩
@[go_sem] theorem cell_row (n i : Nat) (w : World) (c : Array Value) (t : TypeId) [h : RowW n w c t] : w.cell? ⟨n, i, none⟩ = c[i]? := cell_of_row w n i c t (0, 0) h.row
@[go_sem] theorem frozen_row (n i : Nat) (w : World) (c : Array Value) (t : TypeId) [h : RowW n w c t] : w.frozen? ⟨n, i, none⟩ = false := by simp [World.frozen?, h.row]
theorem Up.setRow {B : Nat} {w W : World} (g : Nat) (c : Array Value) (hg : B ≤ g) (h : Up B w W) : Up B w (W.setRow g c) := ⟨below_setRow h.1 hg c, by have := h.2; simpa using this⟩
end Go.Proofs.Ytcjklghjnbhcdaa
