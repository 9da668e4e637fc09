/- A value of twenty cells (api.Read) stored and loaded as one row. -/
import Derived.Test.YtcjklghjnbhcdaaExt
import Derived.Laws.Rows
import Derived.Laws.Tables
import Derived.Deep.WholeRow
namespace Go.Proofs.Ytcjklghjnbhcdaa
open Go.RowKit

/-- Block g of w is a row of cells c. -/
class RowW (g : Nat) (w : World) (c : outParam (Array Value)) (t : outParam TypeId) : Prop where
  row : w.heap[g]? = some (.cells c t (0, 0))
theorem row_lt {g : Nat} {w : World} {c : Array Value} {t : TypeId} (h : w.heap[g]? = some (.cells c t (0, 0))) : g < w.heap.size := by
  have := (Array.getElem?_eq_some_iff.1 h).1; exact this
instance row_new (n : Nat) (w : World) (c : Array Value) (t : TypeId) [h : EqW n w] : RowW n (w.alloc (.cells c t)) c t := ⟨by rw [h.eq]; exact heap_alloc_last w _⟩
instance (priority := low) row_alloc (n : Nat) (w : World) (o : Obj) (c : Array Value) (t : TypeId) [h : RowW n w c t] : RowW n (w.alloc o) c t := ⟨by
  have hl := row_lt h.row
  show (w.heap.push o)[n]? = _
  rw [Array.getElem?_push, if_neg (by omega)]; exact h.row⟩
instance row_drew (n : Nat) (w : World) (c : Array Value) (t : TypeId) [h : RowW n w c t] : RowW n w.drew c t := ⟨h.row⟩
instance row_ext (n : Nat) (w x : World) (c : Array Value) (t : TypeId) [h : RowW n w c t] : RowW n (ext w x) c t := ⟨((ext_below w x).block n (row_lt h.row)).trans h.row⟩

instance eqW_setRow (n g : Nat) (w : World) (c : Array Value) [h : EqW n w] : EqW n (w.setRow g c) := ⟨by rw [h.eq]; simp⟩
instance ltW_setRow (n g : Nat) (w : World) (c : Array Value) [h : LtW n w] : LtW n (w.setRow g c) := ⟨by have := h.lt; simpa using this⟩
noncomputable def exr (w x : World) (n : Nat) (c : Array Value) : World := (ext w x).setRow n c
@[go_sem] theorem setRow_new_tc (w : World) (c c' : Array Value) (t : TypeId) (n : Nat) [h : EqW n w] : (w.alloc (.cells c t)).setRow n c' = w.alloc (.cells c' t) := by
  rw [h.eq]; exact World.setRow_alloc_new w c c' t
@[go_sem] theorem setRow_alloc_tc (w : World) (o : Obj) (c : Array Value) (n : Nat) [h : LtW n w] : (w.alloc o).setRow n c = (w.setRow n c).alloc o := by
  have hl := h.lt
  unfold World.setRow World.alloc
  congr 1
  apply Array.ext_getElem?
  intro k
  simp only [Array.getElem?_modify, Array.getElem?_push, Array.size_modify]
  by_cases hk : k = w.heap.size
  · subst hk
    simp [Nat.ne_of_lt hl]
  · simp [hk]
@[go_sem] theorem setRow_drew_tc (w : World) (c : Array Value) (n : Nat) : w.drew.setRow n c = (w.setRow n c).drew := rfl
@[go_sem] theorem setRow_ext (w x : World) (n : Nat) (c : Array Value) [h : LtW n w] : (ext w x).setRow n c = ext (w.setRow n c) (exr w x n c) := by
  refine (ext_eq (w := w.setRow n c) (x := exr w x n c) ?_).symm
  have hb := ext_below w x
  refine ⟨hb.os, hb.tape, hb.output, by have := hb.size; simpa [exr] using this, fun k hk => ?_⟩
  have h2 := hb.block k (by simpa using hk)
  simp only [exr, World.setRow, Array.getElem?_modify]
  rw [h2]

/-- Twenty cells out of block g, in one. -/
def get20 (g : Nat) : Sem (Array Value) := loadCellsFrom ⟨g, 0, none⟩ 0 20 #[]
theorem get20_of (g : Nat) : loadCellsFrom ⟨g, 0, none⟩ 0 20 #[] = get20 g := rfl
theorem run_get20 {P : Program} (g : Nat) (w : World) (c : Array Value) (t : TypeId) [h : RowW g w c t] (hc : c.size = 20) : (get20 g).run P w = .ok c w := by
  have := run_loadCells_list (P := P) w ⟨g, 0, none⟩ c.toList (fun j v hv => by
    have hadd : (⟨g, 0, none⟩ : Addr).add j = ⟨g, j, none⟩ := by unfold Addr.add; split <;> simp_all
    rw [hadd, cell_of_row _ _ j c t (0, 0) h.row]
    simpa using hv)
  simp only [loadCells] at this
  rw [show c.toList.length = 20 from by simpa using hc] at this
  simpa [get20] using this
/-- Twenty cells into block g, in one. -/
def put20 (g : Nat) (c : Array Value) : Sem Unit := storeCells ⟨g, 0, none⟩ c.toList 0
theorem put20_of (g : Nat) (a0 a1 a2 a3 a4 a5 a6 a7 a8 a9 a10 a11 a12 a13 a14 a15 a16 a17 a18 a19 : Value) :
    storeCells ⟨g, 0, none⟩ [a0, a1, a2, a3, a4, a5, a6, a7, a8, a9, a10, a11, a12, a13, a14, a15, a16, a17, a18, a19] 0 = put20 g #[a0, a1, a2, a3, a4, a5, a6, a7, a8, a9, a10, a11, a12, a13, a14, a15, a16, a17, a18, a19] := rfl
theorem run_put20 {P : Program} (g : Nat) (w : World) (c c' : Array Value) (t : TypeId) [h : RowW g w c t] (hc : c.size = c'.size) (h1 : c'.all (·.oneCell') = true) : (put20 g c').run P w = .ok () (w.setRow g c') := by
  exact run_storeCells_from (P := P) g t c'.toList 0 c w h.row (by simp; omega) (fun v hv => (Array.all_eq_true_iff_forall_mem.1 h1) v (by simpa using hv)) |>.trans (by simp)

/-- Is it this operation? (A guard for arms of go_wp2_with.) -/
theorem at_op {P : Program} {o : Oper} {a : Act} {w : World} {K : Act → World → Prop} {Q : Exit → Act → World → Prop} (p : Op) (ho : o.op = p) (h : o.op = p → o.wp P a w K Q) : o.wp P a w K Q := h ho
/-- A composite literal, as one step. -/
theorem step_build {P : Program} {o : Oper} {a : Act} {w : World} {K : Act → World → Prop} {Q : Exit → Act → World → Prop} (t : TypeId) (parts : Array (Nat × Operand)) (ho : o.op = .build t parts) (cells : Array Value)
    (hc : P.built t (parts.map fun (i, x) => (i, a.eval x)).toList = some cells) (h : K (a.put o.dst (.agg cells)) w) : o.wp P a w K Q :=
  wp_build t parts ho (by rw [hc]; rfl) (by rw [hc]; exact h)
/-- A value of twenty cells stored as one step. -/
theorem step_store20 {P : Program} {o : Oper} {a : Act} {w : World} {K : Act → World → Prop} {Q : Exit → Act → World → Prop} (ty : TypeId) (x y : Operand) (ho : o.op = .store ty x y)
    (g : Nat) (cells : Array Value) (hx : a.eval x = .pointer (some ⟨g, 0, none⟩)) (hy : a.eval y = .agg cells) (c : Array Value) (t : TypeId) (hr : RowW g w c t)
    (hi : (P.info? ty).map (·.size) = some 20) (hc : c.size = 20) (hc' : cells.size = 20) (h1 : cells.all (·.oneCell') = true) (W : World) (hW : w.setRow g cells = W) (h : K (a.put o.dst undef) W) : o.wp P a w K Q :=
  wp_store_row ty x y ho g cells hx hy t c hr.row (by rw [hi, hc']) (by rw [hc, hc']) h1 (hW ▸ h)
/-- A value of twenty cells loaded as one step. -/
theorem step_load20 {P : Program} {o : Oper} {a : Act} {w : World} {K : Act → World → Prop} {Q : Exit → Act → World → Prop} (ty : TypeId) (x : Operand) (ho : o.op = .load ty x)
    (g : Nat) (hx : a.eval x = .pointer (some ⟨g, 0, none⟩)) (c : Array Value) (t : TypeId) (hr : RowW g w c t) (d : TypeDesc) (hu : P.underlying ty = some d) (hd : (match d with | .struct _ | .array _ _ => true | _ => false) = true)
    (hi : (P.info? ty).map (·.size) = some 20) (hc : c.size = 20) (h : K (a.put o.dst (.agg c)) w) : o.wp P a w K Q :=
  wp_load_row ty x ho g hx t c (0, 0) d hr.row hu hd (by rw [hi, hc]) h
end Go.Proofs.Ytcjklghjnbhcdaa
