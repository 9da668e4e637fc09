/- WalkBegins walks to true. -/
import Derived.Test.YtcjklghjnbhcdaaWBegin
import Derived.Test.YtcjklghjnbhcdaaWRBegin
import Derived.Test.YtcjklghjnbhcdaaWWord
import Derived.Test.YtcjklghjnbhcdaaWWakes
import Derived.BigQuiet
namespace Go.Proofs.Ytcjklghjnbhcdaa
open Go.RowKit

theorem has_shape {α : Type} {enc : α → List Value} {W : World} {v : Value} {l : List α} (h : Has enc W v l) : ∃ ad cap, v = .slice ad l.length cap := by
  rcases h with ⟨rfl, rfl | ⟨ad, cap, rfl⟩⟩ | ⟨_, b, o, cap, rfl, _⟩
  · exact ⟨_, _, rfl⟩
  · exact ⟨_, _, rfl⟩
  · exact ⟨_, _, rfl⟩
theorem beginC_form (root a p : Int) (l : List S) : ∃ (b : Bool) (i1 i2 i3 i4 : Int), beginC root a p l = #[.bool b, .int .i64 i1, .int .u64 i2, .int .i8 i3, .int .i64 i4] := by
  unfold beginC; repeat' split
  all_goals exact ⟨_, _, _, _, _, rfl⟩

set_option maxRecDepth 100000 in
set_option maxHeartbeats 2000000 in
theorem WalkBegins_walk (w : World) (root asid page : Int) (l : List S) (v : Value) (o : Bool) (a p lv f : Int) (_ : (Lit.int .i64 root).wf = true) (_ : (Lit.int .i64 asid).wf = true) (_ : (Lit.int .u64 page).wf = true) (hv : Has S.enc w v l) (_ : (Lit.int .i64 a).wf = true) (wp : (Lit.int .u64 p).wf = true) (_ : (Lit.int .i8 lv).wf = true) (_ : (Lit.int .i64 f).wf = true) :
    Calls Try.prog 4 #[.int .i64 root, .int .i64 asid, .int .u64 page, v, .agg #[.bool o, .int .i64 a, .int .u64 p, .int .i8 lv, .int .i64 f]] w fun e w' => e = .returned (.bool true) ∧ ∃ x, w' = ext w x := by
  obtain ⟨p0, _⟩ := bd_u64 wp
  obtain ⟨ad, cap, hs⟩ := has_shape hv
  obtain ⟨cb, hcb⟩ : ∃ cb, beginE root asid page l = cb := ⟨_, rfl⟩
  obtain ⟨b, i1, i2, i3, i4, hform⟩ := beginC_form root asid page l
  obtain ⟨x, hx⟩ : ∃ x, wordV o a p lv f = x := ⟨_, rfl⟩
  obtain ⟨c, hc⟩ : ∃ c, chkW o a p lv f = c := ⟨_, rfl⟩
  have HV := Lib.hid hv; have HF := Lib.hid hform; have HB := Lib.hid hcb; have HX := Lib.hid hx; have HC := Lib.hid hc; have H0 := Lib.hid p0; have HS := Lib.hid hs
  clear hv hform hcb hx hc p0 wp
  by_cases hl : 20 < l.length
  · have hlz : (20 : Int) < (l.length : Int) := by omega
    subst hs
    clear HV
    go_enter Try.func4, Try.ntmps4
    go_wp2_with (go_at_call 13; with_reducible refine (wakes12 _).mono ?_; rintro e w' ⟨rfl, z, rfl⟩)
    go_ret
    exact ⟨rfl, up_to⟩
  · have hlz : (l.length : Int) ≤ 20 := by omega
    have HL := Lib.hid (show l.length ≤ 1000 by omega)
    subst hs
    clear hl
    go_enter Try.func4, Try.ntmps4
    go_wp2_with (first
      | (go_at_call 14; with_reducible refine (begin_any root asid page l _ _ (HV.out.below up_below)).mono ?_
         rintro e w1 ⟨e1, z, h1⟩
         rw [HF.out, HB.out] at e1
         have U1 : Up w.heap.size w w1 := (by rw [h1]; exact ((Up.refl w).alloc _).ext _)
         have L1 : LtW w.heap.size w1 := (by subst h1; infer_instance)
         have c0 : w1.cell? ⟨w.heap.size, 0, none⟩ = some (.bool o) := (by subst h1; simp [go_sem])
         have c1 : w1.cell? ⟨w.heap.size, 1, none⟩ = some (.int .i64 a) := (by subst h1; simp [go_sem])
         have c2 : w1.cell? ⟨w.heap.size, 2, none⟩ = some (.int .u64 p) := (by subst h1; simp [go_sem])
         have c3 : w1.cell? ⟨w.heap.size, 3, none⟩ = some (.int .i8 lv) := (by subst h1; simp [go_sem])
         have c4 : w1.cell? ⟨w.heap.size, 4, none⟩ = some (.int .i64 f) := (by subst h1; simp [go_sem])
         have V1 := Lib.hid (HV.out.below U1.below)
         subst e1; clear h1; simp only [])
      | (go_at_call 15; with_reducible refine (rbegin_any root asid page l _ _ (V1.out.below up_below) HL.out).mono ?_
         rintro e w2 ⟨e1, z, h2⟩
         rw [HF.out, HB.out] at e1
         have U2 : Up w.heap.size w w2 := (by rw [h2]; exact (U1.alloc _).ext _)
         have L2 : LtW w.heap.size w2 := (by subst h2; infer_instance)
         have M2 : LtW w1.heap.size w2 := (by subst h2; infer_instance)
         have d0 : w2.cell? ⟨w.heap.size, 0, none⟩ = some (.bool o) := (by subst h2; simp [go_sem, c0])
         have d1 : w2.cell? ⟨w.heap.size, 1, none⟩ = some (.int .i64 a) := (by subst h2; simp [go_sem, c1])
         have d2 : w2.cell? ⟨w.heap.size, 2, none⟩ = some (.int .u64 p) := (by subst h2; simp [go_sem, c2])
         have d3 : w2.cell? ⟨w.heap.size, 3, none⟩ = some (.int .i8 lv) := (by subst h2; simp [go_sem, c3])
         have d4 : w2.cell? ⟨w.heap.size, 4, none⟩ = some (.int .i64 f) := (by subst h2; simp [go_sem, c4])
         have e0 : w2.cell? ⟨w1.heap.size, 0, none⟩ = some (.bool b) := (by subst h2; simp [go_sem])
         have e2 : w2.cell? ⟨w1.heap.size, 1, none⟩ = some (.int .i64 i1) := (by subst h2; simp [go_sem])
         have e3 : w2.cell? ⟨w1.heap.size, 2, none⟩ = some (.int .u64 i2) := (by subst h2; simp [go_sem])
         have e4 : w2.cell? ⟨w1.heap.size, 3, none⟩ = some (.int .i8 i3) := (by subst h2; simp [go_sem])
         have e5 : w2.cell? ⟨w1.heap.size, 4, none⟩ = some (.int .i64 i4) := (by subst h2; simp [go_sem])
         subst e1; clear h2 V1; simp only [])
      | (go_at_call 16; with_reducible refine (word_any o a p lv f H0.out _ x HX.out c HC.out).mono ?_; rintro e w' ⟨rfl, z, rfl⟩; simp only [])
      | (go_at_call 17; with_reducible refine (rword_any o a p lv f H0.out _ x HX.out c HC.out).mono ?_; rintro e w' ⟨rfl, z, rfl⟩; simp only []))
    refine wp_region_ext_lit (by kernel_rfl) (by kernel_rfl) ?_
    repeat (go_big_quiet_step (first
      | (go_at_call 18; with_reducible exact extq (wcheck_any o a p lv f _ c HC.out))
      | (go_at_call 19; with_reducible exact extq (rwcheck_any o a p lv f _ c HC.out))
      | (go_at_call 13; with_reducible exact extq (wakes12 _))))
    refine wpQuiet_nil ?_
    rintro _ ⟨y, rfl⟩
    go_wp2_with fail
    go_ret
    exact ⟨rfl, up_to (h := by (repeat (first | with_reducible exact U2 | with_reducible apply Up.drew | with_reducible apply Up.alloc | with_reducible apply Up.ext)))⟩
end Go.Proofs.Ytcjklghjnbhcdaa
