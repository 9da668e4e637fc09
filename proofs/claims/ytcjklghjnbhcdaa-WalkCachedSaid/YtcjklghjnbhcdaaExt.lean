/- Worlds that grow: 'w.ext x' is some world in which all blocks of w are as they were; contracts end in one; a region that draws its order and whose callees make memory is walked once. -/
import Derived.Test.YtcjklghjnbhcdaaRows
import Derived.WalkKit
import Derived.WalkSpells
import Derived.WalkLawsBesides
import Derived.BigQuiet
import Derived.Deep.QuietTactic
import Derived.ProofKit
import Derived.OpenShut
import Derived.Maps.AppendAt
namespace Go.Proofs.Ytcjklghjnbhcdaa
open Go.RowKit

open Classical in
/-- Some world that is as w was below w's size, and no smaller. -/
noncomputable def ext (w x : World) : World := if Below w.heap.size w x then x else w

theorem ext_below (w x : World) : Below w.heap.size w (ext w x) := by
  unfold ext; split
  · assumption
  · exact Below.refl _ _

theorem ext_of {w w' : World} (h : Below w.heap.size w w') : ∃ x, w' = ext w x := ⟨w', by unfold ext; rw [if_pos h]⟩

theorem ext_size (w x : World) : w.heap.size ≤ (ext w x).heap.size := (ext_below w x).size

/-! Which block numbers lie in a world: by instances, so that no search by 'simp' is bounded in depth. -/
class EqW (n : Nat) (w : World) : Prop where
  eq : n = w.heap.size
class LtW (n : Nat) (w : World) : Prop where
  lt : n < w.heap.size
instance eqW_self (w : World) : EqW w.heap.size w := ⟨rfl⟩
instance eqW_alloc (n : Nat) (w : World) (o : Obj) [h : EqW n w] : EqW (n + 1) (w.alloc o) := ⟨by rw [h.eq]; simp⟩
instance eqW_drew (n : Nat) (w : World) [h : EqW n w] : EqW n w.drew := ⟨h.eq⟩
instance eqW_drewN (n m : Nat) (w : World) [h : EqW n w] : EqW n (w.drewN m) := ⟨h.eq⟩
instance eqW_set (n : Nat) (w : World) (a : Addr) (v : Value) [h : EqW n w] : EqW n (w.setCell a v) := ⟨by rw [h.eq]; simp⟩
instance ltW_new (n : Nat) (w : World) (o : Obj) [h : EqW n w] : LtW n (w.alloc o) := ⟨by rw [h.eq]; simp⟩
instance ltW_alloc (n : Nat) (w : World) (o : Obj) [h : LtW n w] : LtW n (w.alloc o) := ⟨by have := h.lt; simp; omega⟩
instance ltW_drew (n : Nat) (w : World) [h : LtW n w] : LtW n w.drew := ⟨h.lt⟩
instance ltW_drewN (n m : Nat) (w : World) [h : LtW n w] : LtW n (w.drewN m) := ⟨h.lt⟩
instance ltW_set (n : Nat) (w : World) (a : Addr) (v : Value) [h : LtW n w] : LtW n (w.setCell a v) := ⟨by have := h.lt; simpa using this⟩
instance ltW_ext (n : Nat) (w x : World) [h : LtW n w] : LtW n (ext w x) := ⟨Nat.lt_of_lt_of_le h.lt (ext_size w x)⟩

@[go_sem] theorem cell_ext (w x : World) (n i : Nat) [h : LtW n w] : (ext w x).cell? ⟨n, i, none⟩ = w.cell? ⟨n, i, none⟩ := (ext_below w x).cell (p := ⟨n, i, none⟩) h.lt
@[go_sem] theorem frozen_ext (w x : World) (n i : Nat) [h : LtW n w] : (ext w x).frozen? ⟨n, i, none⟩ = w.frozen? ⟨n, i, none⟩ := (ext_below w x).frozen (p := ⟨n, i, none⟩) h.lt
@[go_sem] theorem shape_ext (w x : World) (n : Nat) [h : LtW n w] : (ext w x).shape? n = w.shape? n := by unfold World.shape?; rw [(ext_below w x).block n h.lt]
@[go_sem] theorem heap_ext (w x : World) (n : Nat) [h : LtW n w] : (ext w x).heap[n]? = w.heap[n]? := (ext_below w x).block n h.lt
@[go_sem] theorem cell_alloc_tc (w : World) (o : Obj) (n i : Nat) [h : LtW n w] : (w.alloc o).cell? ⟨n, i, none⟩ = w.cell? ⟨n, i, none⟩ := World.cell?_alloc_past o n i h.lt
@[go_sem] theorem frozen_alloc_tc (w : World) (o : Obj) (n i : Nat) [h : LtW n w] : (w.alloc o).frozen? ⟨n, i, none⟩ = w.frozen? ⟨n, i, none⟩ := World.frozen?_alloc_past o n i h.lt
@[go_sem] theorem cell_new_tc (w : World) (c : Array Value) (t : TypeId) (n i : Nat) [h : EqW n w] : (w.alloc (.cells c t)).cell? ⟨n, i, none⟩ = c[i]? := World.cell?_alloc_at c t n i h.eq
@[go_sem] theorem frozen_new_tc (w : World) (c : Array Value) (t : TypeId) (n i : Nat) [h : EqW n w] : (w.alloc (.cells c t)).frozen? ⟨n, i, none⟩ = false := World.frozen?_alloc_at c t n i h.eq
@[go_sem] theorem set_alloc_tc (w : World) (o : Obj) (n i : Nat) (v : Value) [h : LtW n w] : (w.alloc o).setCell ⟨n, i, none⟩ v = (w.setCell ⟨n, i, none⟩ v).alloc o := World.setCell_alloc_past o n i v h.lt
@[go_sem] theorem set_new_tc (w : World) (c : Array Value) (t : TypeId) (n i : Nat) (v : Value) [h : EqW n w] : (w.alloc (.cells c t)).setCell ⟨n, i, none⟩ v = w.alloc (.cells (c.setIfInBounds i v) t) := World.setCell_alloc_at c t n i v h.eq
@[go_sem] theorem ne_tc (w : World) (n : Nat) [h : LtW n w] : (n = w.heap.size) = False := by have := h.lt; simp; omega
@[go_sem] theorem ne_tc1 (w : World) (n k : Nat) [h : LtW n w] : (n = w.heap.size + k) = False := by have := h.lt; simp; omega
@[go_sem] theorem ne_tc' (w : World) (n : Nat) [h : LtW n w] : (w.heap.size = n) = False := by have := h.lt; simp; omega
@[go_sem] theorem ne_tc1' (w : World) (n k : Nat) [h : LtW n w] : (w.heap.size + k = n) = False := by have := h.lt; simp; omega
@[go_sem] theorem lt_tc (w : World) (n : Nat) [h : LtW n w] : (n < w.heap.size) = True := by have := h.lt; simp; omega
@[go_sem] theorem lt_tc1 (w : World) (n k : Nat) [h : LtW n w] : (n < w.heap.size + k) = True := by have := h.lt; simp; omega

/-! One 'ext' over another, over a draw, under a store: brought into one form. -/
noncomputable def exty (w x y : World) : World := ext (ext w x) y
noncomputable def exd (w x : World) : World := ext w.drew x
noncomputable def exdn (w : World) (n : Nat) (x : World) : World := ext (w.drewN n) x
noncomputable def exs (w x : World) (n i : Nat) (v : Value) : World := (ext w x).setCell ⟨n, i, none⟩ v
theorem ext_eq {w x : World} (h : Below w.heap.size w x) : ext w x = x := by unfold ext; rw [if_pos h]
@[go_sem] theorem ext_ext' (w x y : World) : ext (ext w x) y = ext w (exty w x y) :=
  (ext_eq (w := w) (x := exty w x y) ((ext_below w x).trans ((ext_below (ext w x) y).mono (ext_size w x)))).symm
@[go_sem] theorem ext_drew' (w x : World) : ext w.drew x = ext w (exd w x) := by
  refine (ext_eq (w := w) (x := exd w x) ?_).symm
  have := ext_below w.drew x
  exact ⟨this.os, this.tape, this.output, this.size, this.block⟩
@[go_sem] theorem ext_drewN' (w x : World) (n : Nat) : ext (w.drewN n) x = ext w (exdn w n x) := by
  refine (ext_eq (w := w) (x := exdn w n x) ?_).symm
  have := ext_below (w.drewN n) x
  exact ⟨this.os, this.tape, this.output, this.size, this.block⟩
@[go_sem] theorem set_ext (w x : World) (n i : Nat) (v : Value) [LtW n w] : (ext w x).setCell ⟨n, i, none⟩ v = ext (w.setCell ⟨n, i, none⟩ v) (exs w x n i v) := by
  refine (ext_eq (w := w.setCell ⟨n, i, none⟩ v) (x := exs w x n i v) ?_).symm
  have hb := ext_below w x
  refine ⟨hb.os, hb.tape, hb.output, by have := hb.size; simpa [exs] using this, fun k hk => ?_⟩
  have h2 := hb.block k (by simpa using hk)
  simp only [exs, World.setCell, Array.getElem?_modify]
  rw [h2]

/-- What has grown out of w. -/
structure Up (B : Nat) (w W : World) : Prop where
  below : Below B w W
  le : B ≤ W.heap.size
theorem Up.refl (w : World) : Up w.heap.size w w := ⟨Below.refl _ _, Nat.le_refl _⟩
theorem Up.drew {B : Nat} {w W : World} (h : Up B w W) : Up B w W.drew := ⟨h.1.drew, h.2⟩
theorem Up.drewN {B : Nat} {w W : World} (n : Nat) (h : Up B w W) : Up B w (W.drewN n) := ⟨h.1.trans ⟨rfl, rfl, rfl, Nat.le_refl _, fun _ _ => rfl⟩, h.2⟩
theorem Up.alloc {B : Nat} {w W : World} (o : Obj) (h : Up B w W) : Up B w (W.alloc o) := ⟨h.1.alloc h.2 o, by have := h.2; simp; omega⟩
theorem Up.ext {B : Nat} {w W : World} (x : World) (h : Up B w W) : Up B w (ext W x) := ⟨h.1.trans ((ext_below W x).mono h.2), Nat.le_trans h.2 (ext_size W x)⟩
theorem Up.setCell {B : Nat} {w W : World} (n i : Nat) (v : Value) (hn : B ≤ n) (h : Up B w W) : Up B w (W.setCell ⟨n, i, none⟩ v) := ⟨h.1.setCell (p := ⟨n, i, none⟩) hn v, by have := h.2; simpa using this⟩
theorem Up.trans {w W W' : World} {B : Nat} (h : Up B w W) (h' : Up W.heap.size W W') : Up B w W' := ⟨h.1.trans (h'.1.mono h.2), Nat.le_trans h.2 h'.2⟩
theorem Up.to {w W : World} (h : Up w.heap.size w W) : ∃ x, W = Go.Proofs.Ytcjklghjnbhcdaa.ext w x := ext_of h.1
theorem Up.of {w W : World} (h : ∃ x, W = Go.Proofs.Ytcjklghjnbhcdaa.ext w x) : Up w.heap.size w W := by
  obtain ⟨x, rfl⟩ := h; exact ⟨ext_below w x, ext_size w x⟩

theorem ext_ext (w x y : World) : ∃ z, ext (ext w x) y = ext w z := (((Up.refl w).ext x).ext y).to
theorem ext_drew (w : World) : ∃ z, w.drew = ext w z := (Up.refl w).drew.to

/-- 'ext' under another name, within a region. -/
noncomputable def exq (w x : World) : World := ext w x
instance ltW_exq (n : Nat) (w x : World) [h : LtW n w] : LtW n (exq w x) := ⟨(ltW_ext n w x).lt⟩
@[go_sem] theorem cell_exq (w x : World) (n i : Nat) [LtW n w] : (exq w x).cell? ⟨n, i, none⟩ = w.cell? ⟨n, i, none⟩ := cell_ext w x n i
@[go_sem] theorem frozen_exq (w x : World) (n i : Nat) [LtW n w] : (exq w x).frozen? ⟨n, i, none⟩ = w.frozen? ⟨n, i, none⟩ := frozen_ext w x n i
@[go_sem] theorem shape_exq (w x : World) (n : Nat) [LtW n w] : (exq w x).shape? n = w.shape? n := shape_ext w x n
@[go_sem] theorem heap_exq (w x : World) (n : Nat) [LtW n w] : (exq w x).heap[n]? = w.heap[n]? := heap_ext w x n

/-- A region that draws its order, whose operations only read old blocks, and whose callees at most make new ones: one walk, in the order of the text. -/
theorem wp_region_ext_lit {P : Program} {id : Nat} {Q : Exit → Act → World → Prop} {a : Act} {w : World} {l : List Oper} (hm : P.follows .mixedOrders = true) (hB : Region.lexB .any l.toArray = true)
    (h : wpQuiet P l.toArray (fun w' => ∃ x, w' = exq w x) (fun a' => ∀ w', (∃ x, w' = ext w x) → Q .normal a' w') l a) : (Code.region id l.toArray true).wp P Q a w :=
  wp_region_quiet (C := fun w' => ∃ x, w' = ext w x) hm hB (ext_drew w) (by simpa only [exq] using h)

/-- A callee's contract, met in such a region. -/
theorem extq {P : Program} {f : FuncId} {args : Array Value} {w x : World} {v : Value}
    (h : Calls P f args (exq w x) fun e w' => e = .returned v ∧ ∃ y, w' = ext (exq w x) y) : Calls P f args (exq w x) fun e w'' => e = .returned v ∧ ∃ y, w'' = exq w y :=
  h.mono fun _ _ ⟨he, y, hy⟩ => ⟨he, by rw [hy]; exact ext_ext w x y⟩

theorem le_ext (w x : World) (n : Nat) (h : n ≤ w.heap.size) : n ≤ (ext w x).heap.size := Nat.le_trans h (ext_size w x)

theorem up_to {w W : World} (h : Up w.heap.size w W := by (repeat (first | (with_reducible exact Up.refl _) | with_reducible apply Up.drew | with_reducible apply Up.drewN | with_reducible apply Up.alloc | with_reducible apply Up.ext | ((with_reducible refine Up.setCell _ _ _ ?_ ?_); (first | (simp; done) | (simp; omega)))))) : ∃ x, W = ext w x := h.to

theorem bd_u64 {a : Int} (h : (Lit.int .u64 a).wf = true) : 0 ≤ a ∧ a < 18446744073709551616 := by have := bounds_u64 h; omega

theorem ownsRow_ext {w : World} {base n size : Nat} {e : TypeId} {v : Value} {xs : List Value} (x : World) (h : w.ownsRow base e size v n xs) : (ext w x).ownsRow base e size v n xs := by
  obtain ⟨h1, h2⟩ := h
  refine ⟨h1, ?_⟩
  rcases h2 with h2 | ⟨g, cap, cur, hv, hg, hh, r⟩
  · exact .inl h2
  · exact .inr ⟨g, cap, cur, hv, hg, ((ext_below w x).block g (Array.getElem?_eq_some_iff.1 hh).1).trans hh, r⟩

theorem ownBlock_le {w : World} {base n size : Nat} {e : TypeId} {v : Value} {xs : List Value} (h : w.ownsRow base e size v n xs) : ∀ k, v.ownBlock = some k → base ≤ k := by
  obtain ⟨_, h2⟩ := h
  rcases h2 with ⟨rfl, _⟩ | ⟨g, cap, cur, rfl, hg, _⟩
  · intro k hk; cases hk
  · intro k hk
    simp only [Value.ownBlock, Option.some.injEq] at hk
    omega

theorem ret_bool {a b : Bool} (h : a = b) : Ending.returned (.bool a) = .returned (.bool b) := by rw [h]
theorem ret_int {k : IntKind} {a b : Int} (h : a = b) : Ending.returned (.int k a) = .returned (.int k b) := by rw [h]
end Go.Proofs.Ytcjklghjnbhcdaa
