/- What tlb's closures and check of a Step-row tell. -/
import Derived.Test.YtcjklghjnbhcdaaWTlbA
import Derived.Laws.EntriesVeiled
import Derived.Shelf.Abstract
namespace Go.Proofs.Ytcjklghjnbhcdaa
open Go.RowKit

abbrev stepsV : Value := .agg #[.int .i64 4, .func (.func 82) #[] #[], .func (.func 83) #[] #[], .func (.func 84) #[] #[]]
abbrev stepsC : Array Value := #[.int .i64 4, .func (.func 82) #[] #[], .func (.func 83) #[] #[], .func (.func 84) #[] #[]]
abbrev mostS : Nat := 4

/-- How a page begins at a level from 1 to 3. -/
def begV (q L : Int) : Int := if L = 1 then q / 262144 else if L = 2 then q / 512 else q

theorem tbegins_any (q L : Int) (hL : L = 1 ∨ L = 2 ∨ L = 3) (w : World) (r : Int) (hr : begV q L = r) :
    Calls Try.prog 64 #[.int .u64 q, .int .i8 L] w fun e w' => e = .returned (.int .u64 r) ∧ ∃ x, w' = ext w x := by
  subst hr
  rcases hL with rfl | rfl | rfl
  all_goals
    go_enter Try.func64, Try.ntmps64
    go_wp2
    go_ret
    exact ⟨ret_int (by simp [begV]), up_to⟩

set_option maxHeartbeats 1000000 in
theorem smay_any (x : S) (w : World) :
    Calls Try.prog 82 #[x.v] w fun e w' => e = .returned (.bool x.may) ∧ ∃ x, w' = ext w x := by
  obtain ⟨a, l, p, f⟩ := x
  have hm : (decide (0 ≤ a) = false ∧ S.may ⟨a, l, p, f⟩ = false) ∨ (decide (0 ≤ a) = true ∧ decide (a ≤ 255) = false ∧ S.may ⟨a, l, p, f⟩ = false) ∨ (decide (0 ≤ a) = true ∧ decide (a ≤ 255) = true ∧ decide (1 ≤ l) = false ∧ S.may ⟨a, l, p, f⟩ = false) ∨ (decide (0 ≤ a) = true ∧ decide (a ≤ 255) = true ∧ decide (1 ≤ l) = true ∧ decide (l ≤ 3) = false ∧ S.may ⟨a, l, p, f⟩ = false) ∨ (decide (0 ≤ a) = true ∧ decide (a ≤ 255) = true ∧ decide (1 ≤ l) = true ∧ decide (l ≤ 3) = true ∧ decide (p < topOf l) = false ∧ S.may ⟨a, l, p, f⟩ = false) ∨ (decide (0 ≤ a) = true ∧ decide (a ≤ 255) = true ∧ decide (1 ≤ l) = true ∧ decide (l ≤ 3) = true ∧ decide (p < topOf l) = true ∧ decide (0 ≤ f) = false ∧ S.may ⟨a, l, p, f⟩ = false) ∨ (decide (0 ≤ a) = true ∧ decide (a ≤ 255) = true ∧ decide (1 ≤ l) = true ∧ decide (l ≤ 3) = true ∧ decide (p < topOf l) = true ∧ decide (0 ≤ f) = true ∧ decide (f < 64) = false ∧ S.may ⟨a, l, p, f⟩ = false) ∨ (decide (0 ≤ a) = true ∧ decide (a ≤ 255) = true ∧ decide (1 ≤ l) = true ∧ decide (l ≤ 3) = true ∧ decide (p < topOf l) = true ∧ decide (0 ≤ f) = true ∧ decide (f < 64) = true ∧ S.may ⟨a, l, p, f⟩ = true) := by
    simp only [S.may, decide_eq_true_eq, decide_eq_false_iff_not]
    generalize topOf l = tt
    omega
  have hL : decide (1 ≤ l) = true → decide (l ≤ 3) = true → l = 1 ∨ l = 2 ∨ l = 3 := by simp only [decide_eq_true_eq]; omega
  generalize S.may ⟨a, l, p, f⟩ = r at hm ⊢
  have hB : begV 34359738368 l = topOf l := by
    unfold begV topOf; by_cases e1 : l = 1 <;> by_cases e2 : l = 2 <;> simp [e1, e2]
  generalize topOf l = tt at hm hB
  rcases hm with ⟨h1, rfl⟩ | ⟨h1, h2, rfl⟩ | ⟨h1, h2, h3, rfl⟩ | ⟨h1, h2, h3, h4, rfl⟩ | ⟨h1, h2, h3, h4, h5, rfl⟩ | ⟨h1, h2, h3, h4, h5, h6, rfl⟩ | ⟨h1, h2, h3, h4, h5, h6, h7, rfl⟩ | ⟨h1, h2, h3, h4, h5, h6, h7, rfl⟩
  all_goals
    go_enter Try.func82, Try.ntmps82
    go_wp2
    refine wp_region_ext_lit (by kernel_rfl) (by kernel_rfl) ?_
    repeat (go_big_quiet_step ((go_at_call 64; exact extq (tbegins_any _ _ (hL h3 h4) _ tt hB))))
    refine wpQuiet_nil ?_
    rintro _ ⟨x, rfl⟩
    go_wp2
    go_ret
    exact ⟨rfl, up_to⟩

theorem ssame_any (x y : S) (w : World) :
    Calls Try.prog 83 #[x.v, y.v] w fun e w' => e = .returned (.bool (x.same y)) ∧ ∃ x, w' = ext w x := by
  obtain ⟨a, l, p, f⟩ := x
  obtain ⟨a', l', p', f'⟩ := y
  go_enter Try.func83, Try.ntmps83
  go_wp2
  all_goals
    go_ret
    refine ⟨ret_bool ?_, up_to⟩
    rw [Bool.eq_iff_iff]
    simp_all [S.same]

theorem steps_any (w : World) : Calls Try.prog 61 #[] w fun e w' => e = .returned stepsV ∧ ∃ x, w' = ext w x := by
  go_enter Try.func61, Try.ntmps61
  go_wp2
  refine bodyPost_ret (v := stepsV) (by simp [results, Try.results61, go_sem]) rfl ⟨rfl, up_to⟩

/-- The four cells of an entry. -/
structure AtS (W : World) (b : Nat) (x : S) : Prop where
  c0 : W.cell? ⟨b, 0, none⟩ = some x.c0
  c1 : W.cell? ⟨b, 1, none⟩ = some x.c1
  c2 : W.cell? ⟨b, 2, none⟩ = some x.c2
  c3 : W.cell? ⟨b, 3, none⟩ = some x.c3
theorem AtS.below {W W' : World} {b : Nat} {x : S} (h : AtS W b x) (hb : b < W.heap.size) (hB : Below W.heap.size W W') : AtS W' b x :=
  ⟨(hB.cell (p := ⟨b, 0, none⟩) hb).trans h.c0, (hB.cell (p := ⟨b, 1, none⟩) hb).trans h.c1, (hB.cell (p := ⟨b, 2, none⟩) hb).trans h.c2, (hB.cell (p := ⟨b, 3, none⟩) hb).trans h.c3⟩

/-- 'same' of the captured entry and the closure's own. -/
theorem scheck1_any (W : World) (bw bx : Nat) [LtW bw W] [LtW bx W] (hw : W.cell? ⟨bw, 2, none⟩ = some (.func (.func 83) #[] #[])) (x y : S) (hx : AtS W bx x) :
    Calls Try.prog 86 #[y.v, .pointer (some ⟨bw, 0, none⟩), .pointer (some ⟨bx, 0, none⟩)] W fun e w' => e = .returned (.bool (x.same y)) ∧ ∃ x, w' = ext W x := by
  obtain ⟨h0, h1, h2, h3⟩ := hx
  go_enter Try.func86, Try.ntmps86
  go_wp2_with (go_at_call 83; refine (ssame_any x y _).mono ?_; rintro e w' ⟨rfl, z, rfl⟩)
  go_ret
  exact ⟨rfl, up_to⟩

theorem sclos_check {Wc : World} (bw bx : Nat) [LtW bw Wc] [LtW bx Wc] (hw : Wc.cell? ⟨bw, 2, none⟩ = some (.func (.func 83) #[] #[])) (x : S) (hx : AtS Wc bx x) :
    ∀ (W : World) (y : S), Below Wc.heap.size Wc W → Calls Try.prog 86 (#[y.v] ++ #[.pointer (some ⟨bw, 0, none⟩), .pointer (some ⟨bx, 0, none⟩)]) W fun e w' => e = .returned (.bool (x.same y)) ∧ ∃ x, w' = ext W x := fun W y hB => by
  haveI := below_lt hB bw
  haveI := below_lt hB bx
  exact scheck1_any W bw bx (below_cell hB bw 2 hw) x y (hx.below (LtW.lt (n := bx)) hB)
theorem senters_check : ∀ args w, (callFunc 86 args).run Try.prog w = .ok (.enter 86 args) w := enters_of Try.func86 (by kernel_rfl) rfl
end Go.Proofs.Ytcjklghjnbhcdaa
