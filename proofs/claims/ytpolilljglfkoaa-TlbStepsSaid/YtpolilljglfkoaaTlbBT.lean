/- What tlb's closures and check of a Tlb-row tell. -/
import Derived.Test.YtpolilljglfkoaaTlbAT
import Derived.Laws.EntriesVeiled
import Derived.Shelf.Abstract
namespace Go.Proofs.Ytpolilljglfkoaa
open Go.RowKit

abbrev tlbsV : Value := .agg #[.int .i64 8, .func (.func 76) #[] #[], .func (.func 77) #[] #[], .func (.func 78) #[] #[]]
abbrev tlbsC : Array Value := #[.int .i64 8, .func (.func 76) #[] #[], .func (.func 77) #[] #[], .func (.func 78) #[] #[]]
abbrev mostT : Nat := 8

theorem tmay_any (x : E) (w : World) :
    Calls Try.prog 76 #[x.v] w fun e w' => e = .returned (.bool x.may) ∧ ∃ x, w' = ext w x := by
  obtain ⟨a, p, f, ro⟩ := x
  go_enter Try.func76, Try.ntmps76
  go_wp2
  all_goals
    go_ret
    refine ⟨ret_bool ?_, up_to⟩
    rw [Bool.eq_iff_iff]
    simp_all [E.may]
  all_goals omega

theorem tsame_any (x y : E) (w : World) :
    Calls Try.prog 77 #[x.v, y.v] w fun e w' => e = .returned (.bool (x.same y)) ∧ ∃ x, w' = ext w x := by
  obtain ⟨a, p, f, ro⟩ := x
  obtain ⟨a', p', f', ro'⟩ := y
  go_enter Try.func77, Try.ntmps77
  go_wp2
  all_goals
    go_ret
    refine ⟨ret_bool ?_, up_to⟩
    rw [Bool.eq_iff_iff]
    simp_all [E.same]

theorem tlbs_any (w : World) : Calls Try.prog 54 #[] w fun e w' => e = .returned tlbsV ∧ ∃ x, w' = ext w x := by
  go_enter Try.func54, Try.ntmps54
  go_wp2
  refine bodyPost_ret (v := tlbsV) (by simp [results, Try.results54, go_sem]) rfl ⟨rfl, up_to⟩

/-- The four cells of an entry. -/
structure AtE (W : World) (b : Nat) (x : E) : Prop where
  c0 : W.cell? ⟨b, 0, none⟩ = some x.c0
  c1 : W.cell? ⟨b, 1, none⟩ = some x.c1
  c2 : W.cell? ⟨b, 2, none⟩ = some x.c2
  c3 : W.cell? ⟨b, 3, none⟩ = some x.c3
theorem AtE.below {W W' : World} {b : Nat} {x : E} (h : AtE W b x) (hb : b < W.heap.size) (hB : Below W.heap.size W W') : AtE W' b x :=
  ⟨(hB.cell (p := ⟨b, 0, none⟩) hb).trans h.c0, (hB.cell (p := ⟨b, 1, none⟩) hb).trans h.c1, (hB.cell (p := ⟨b, 2, none⟩) hb).trans h.c2, (hB.cell (p := ⟨b, 3, none⟩) hb).trans h.c3⟩

/-- 'same' of the captured entry and the closure's own. -/
theorem tcheck1_any (W : World) (bw bx : Nat) [LtW bw W] [LtW bx W] (hw : W.cell? ⟨bw, 2, none⟩ = some (.func (.func 77) #[] #[])) (x y : E) (hx : AtE W bx x) :
    Calls Try.prog 80 #[y.v, .pointer (some ⟨bw, 0, none⟩), .pointer (some ⟨bx, 0, none⟩)] W fun e w' => e = .returned (.bool (x.same y)) ∧ ∃ x, w' = ext W x := by
  obtain ⟨h0, h1, h2, h3⟩ := hx
  go_enter Try.func80, Try.ntmps80
  go_wp2_with (go_at_call 77; refine (tsame_any x y _).mono ?_; rintro e w' ⟨rfl, z, rfl⟩)
  go_ret
  exact ⟨rfl, up_to⟩

theorem tfill1_any (W : World) (bw bx : Nat) [LtW bw W] [LtW bx W] (hw : W.cell? ⟨bw, 2, none⟩ = some (.func (.func 77) #[] #[])) (x y : E) (hx : AtE W bx x) :
    Calls Try.prog 82 #[y.v, .pointer (some ⟨bw, 0, none⟩), .pointer (some ⟨bx, 0, none⟩)] W fun e w' => e = .returned (.bool (x.same y)) ∧ ∃ x, w' = ext W x := by
  obtain ⟨h0, h1, h2, h3⟩ := hx
  go_enter Try.func82, Try.ntmps82
  go_wp2_with (go_at_call 77; refine (tsame_any x y _).mono ?_; rintro e w' ⟨rfl, z, rfl⟩)
  go_ret
  exact ⟨rfl, up_to⟩

theorem tclos_check {Wc : World} (bw bx : Nat) [LtW bw Wc] [LtW bx Wc] (hw : Wc.cell? ⟨bw, 2, none⟩ = some (.func (.func 77) #[] #[])) (x : E) (hx : AtE Wc bx x) :
    ∀ (W : World) (y : E), Below Wc.heap.size Wc W → Calls Try.prog 80 (#[y.v] ++ #[.pointer (some ⟨bw, 0, none⟩), .pointer (some ⟨bx, 0, none⟩)]) W fun e w' => e = .returned (.bool (x.same y)) ∧ ∃ x, w' = ext W x := fun W y hB => by
  haveI := below_lt hB bw
  haveI := below_lt hB bx
  exact tcheck1_any W bw bx (below_cell hB bw 2 hw) x y (hx.below (LtW.lt (n := bx)) hB)
theorem tclos_fill {Wc : World} (bw bx : Nat) [LtW bw Wc] [LtW bx Wc] (hw : Wc.cell? ⟨bw, 2, none⟩ = some (.func (.func 77) #[] #[])) (x : E) (hx : AtE Wc bx x) :
    ∀ (W : World) (y : E), Below Wc.heap.size Wc W → Calls Try.prog 82 (#[y.v] ++ #[.pointer (some ⟨bw, 0, none⟩), .pointer (some ⟨bx, 0, none⟩)]) W fun e w' => e = .returned (.bool (x.same y)) ∧ ∃ x, w' = ext W x := fun W y hB => by
  haveI := below_lt hB bw
  haveI := below_lt hB bx
  exact tfill1_any W bw bx (below_cell hB bw 2 hw) x y (hx.below (LtW.lt (n := bx)) hB)
theorem tenters_check : ∀ args w, (callFunc 80 args).run Try.prog w = .ok (.enter 80 args) w := enters_of Try.func80 (by kernel_rfl) rfl
theorem tenters_fill : ∀ args w, (callFunc 82 args).run Try.prog w = .ok (.enter 82 args) w := enters_of Try.func82 (by kernel_rfl) rfl
end Go.Proofs.Ytpolilljglfkoaa
