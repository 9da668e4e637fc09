/- Where a walk begins: the document. -/
import Derived.Test.YtcjklghjnbhcdaaWWalk
import Derived.Test.YtcjklghjnbhcdaaWRefC
import Derived.Test.YtcjklghjnbhcdaaWTlbG
import Derived.Test.YtcjklghjnbhcdaaWWord
import Derived.Test.YtcjklghjnbhcdaaWRowT
import Derived.Test.YtcjklghjnbhcdaaWBegin
import Derived.RegionTactic
import Derived.BigRegion
namespace Go.Proofs.Ytcjklghjnbhcdaa
open Go.RowKit

theorem rbegin_bad (root a p : Int) (l : List S) (v : Value) (w : World) (hv : Has S.enc w v l) (hl : l.length ≤ 1000) (hn : ¬ beginOk root a p l) :
    Calls Try.prog 15 #[.int .i64 root, .int .i64 a, .int .u64 p, v] w fun e w' => e = .returned (.tuple #[.agg #[.bool false, .int .i64 0, .int .u64 0, .int .i8 0, .int .i64 0], .int .i64 2]) ∧ ∃ x, w' = ext w x := by
  have hcase : root < 1 ∨ (1 ≤ root ∧ 64 ≤ root) ∨ (1 ≤ root ∧ root < 64 ∧ a < 1) ∨ (1 ≤ root ∧ root < 64 ∧ 1 ≤ a ∧ 255 < a) ∨ (1 ≤ root ∧ root < 64 ∧ 1 ≤ a ∧ a ≤ 255 ∧ 34359738368 ≤ p) ∨ (1 ≤ root ∧ root < 64 ∧ 1 ≤ a ∧ a ≤ 255 ∧ p < 34359738368) := by omega
  rcases hcase with h1 | ⟨h1, h2⟩ | ⟨h1, h2, h3⟩ | ⟨h1, h2, h3, h4⟩ | ⟨h1, h2, h3, h4, h5⟩ | ⟨h1, h2, h3, h4, h5⟩
  · clear hv hn
    go_enter Try.func15, Try.ntmps15
    go_wp2_with fail
    exact bodyPost_ret (v := .tuple #[.agg #[.bool false, .int .i64 0, .int .u64 0, .int .i8 0, .int .i64 0], .int .i64 2]) (by simp [results, Try.results15, go_sem]) rfl ⟨rfl, up_to⟩
  · clear hv hn
    go_enter Try.func15, Try.ntmps15
    go_wp2_with fail
    exact bodyPost_ret (v := .tuple #[.agg #[.bool false, .int .i64 0, .int .u64 0, .int .i8 0, .int .i64 0], .int .i64 2]) (by simp [results, Try.results15, go_sem]) rfl ⟨rfl, up_to⟩
  · clear hv hn
    go_enter Try.func15, Try.ntmps15
    go_wp2_with fail
    exact bodyPost_ret (v := .tuple #[.agg #[.bool false, .int .i64 0, .int .u64 0, .int .i8 0, .int .i64 0], .int .i64 2]) (by simp [results, Try.results15, go_sem]) rfl ⟨rfl, up_to⟩
  · clear hv hn
    go_enter Try.func15, Try.ntmps15
    go_wp2_with fail
    exact bodyPost_ret (v := .tuple #[.agg #[.bool false, .int .i64 0, .int .u64 0, .int .i8 0, .int .i64 0], .int .i64 2]) (by simp [results, Try.results15, go_sem]) rfl ⟨rfl, up_to⟩
  · clear hv hn
    go_enter Try.func15, Try.ntmps15
    go_wp2_with fail
    exact bodyPost_ret (v := .tuple #[.agg #[.bool false, .int .i64 0, .int .u64 0, .int .i8 0, .int .i64 0], .int .i64 2]) (by simp [results, Try.results15, go_sem]) rfl ⟨rfl, up_to⟩
  · have h6 : ¬ Chk mostS S.may S.same l := fun h => hn ⟨h1, by unfold chkW; rw [if_pos ⟨rfl, by omega, by omega, by omega, by omega, by omega, by omega, by omega⟩], h⟩
    have HK := Lib.hid (chk_no h6); have HV := Lib.hid hv; have HL := Lib.hid hl
    clear h6 hv hn hl
    go_enter Try.func15, Try.ntmps15
    go_wp2_with (go_at_call 35; with_reducible refine (rcheck_any l v _ (HV.out.below up_below) HL.out 2 HK.out).mono ?_; rintro e w' ⟨rfl, z, rfl⟩; simp only [])
    exact bodyPost_ret (v := .tuple #[.agg #[.bool false, .int .i64 0, .int .u64 0, .int .i8 0, .int .i64 0], .int .i64 2]) (by simp [results, Try.results15, go_sem]) rfl ⟨rfl, up_to⟩

theorem rbegin_root (root a p : Int) (l : List S) (v : Value) (w : World) (hv : Has S.enc w v l) (hl : l.length ≤ 1000) (h : beginOk root a p l) (hb : ¬ 0 < (bestR a p l).l) :
    Calls Try.prog 15 #[.int .i64 root, .int .i64 a, .int .u64 p, v] w fun e w' => e = .returned (.tuple #[.agg #[.bool true, .int .i64 a, .int .u64 p, .int .i8 0, .int .i64 root], .int .i64 0]) ∧ ∃ x, w' = ext w x := by
  obtain ⟨h1, h2, h3⟩ := h
  obtain ⟨_, _, _, _, g1, g2, g3, g4⟩ := chk_zero h2
  have HC := Lib.hid h2; have HK := Lib.hid (chk_yes h3); have HV := Lib.hid hv; have HL := Lib.hid hl; have HB := Lib.hid (decide_eq_false hb)
  clear h2 h3 hv hb hl
  go_enter Try.func15, Try.ntmps15
  go_wp2_with (first
    | (go_at_call 35; with_reducible refine (rcheck_any l v _ (HV.out.below up_below) HL.out 0 HK.out).mono ?_; rintro e w' ⟨rfl, z, rfl⟩; simp only [])
    | (go_at_call 36; with_reducible refine (rbest_any l v a p _ (HV.out.below up_below) HL.out _ rfl false HB.out).mono ?_; rintro e w' ⟨rfl, z, rfl⟩; simp only []))
  exact bodyPost_ret (v := .tuple #[.agg #[.bool true, .int .i64 a, .int .u64 p, .int .i8 0, .int .i64 root], .int .i64 0]) (by simp [results, Try.results15, go_sem]) rfl ⟨rfl, up_to⟩

theorem rbegin_step (root a p : Int) (l : List S) (v : Value) (w : World) (hv : Has S.enc w v l) (hl : l.length ≤ 1000) (h : beginOk root a p l) (r : S) (hr : bestR a p l = r) (hb : 0 < r.l) :
    Calls Try.prog 15 #[.int .i64 root, .int .i64 a, .int .u64 p, v] w fun e w' => e = .returned (.tuple #[.agg #[.bool true, .int .i64 a, .int .u64 p, .int .i8 r.l, .int .i64 r.f], .int .i64 0]) ∧ ∃ x, w' = ext w x := by
  obtain ⟨h1, h2, h3⟩ := h
  obtain ⟨_, _, _, _, g1, g2, g3, g4⟩ := chk_zero h2
  have HC := Lib.hid h2; have HK := Lib.hid (chk_yes h3); have HV := Lib.hid hv; have HL := Lib.hid hl; have HB := Lib.hid (decide_eq_true hb); have HR := Lib.hid hr
  clear h2 h3 hv hb hr hl
  go_enter Try.func15, Try.ntmps15
  go_wp2_with (first
    | (go_at_call 35; with_reducible refine (rcheck_any l v _ (HV.out.below up_below) HL.out 0 HK.out).mono ?_
       rintro e w1 ⟨rfl, z, e1⟩
       have U1 : Up w.heap.size w w1 := (by rw [e1]; repeat (first | with_reducible exact Up.refl _ | with_reducible apply Up.drew | with_reducible apply Up.alloc | with_reducible apply Up.ext))
       have L8 : LtW w.heap.size w1 := (by subst e1; infer_instance)
       have Q8 : RowW w.heap.size w1 #[.bool false, .int .i64 0, .int .u64 0, .int .i8 0, .int .i64 0] 39 := (by subst e1; infer_instance)
       have V1 := Lib.hid (HV.out.below U1.below)
       clear e1)
    | (go_at_call 36; with_reducible refine (rbest_any l v a p _ (V1.out.below up_below) HL.out r HR.out true HB.out).mono ?_
       rintro e w2 ⟨rfl, z, h2⟩
       have U2 : Up w.heap.size w w2 := (by rw [h2]; exact (U1.alloc _).ext _)
       have M2 : LtW w.heap.size w2 := (by subst h2; infer_instance)
       have M3 : LtW w1.heap.size w2 := (by subst h2; infer_instance)
       have R8 : RowW w.heap.size w2 #[.bool false, .int .i64 0, .int .u64 0, .int .i8 0, .int .i64 0] 39 := (by subst h2; infer_instance)
       have R10 : RowW w1.heap.size w2 #[.bool true, .int .i64 a, .int .u64 p, .int .i8 0, .int .i64 root] 39 := (by subst h2; infer_instance)
       clear h2))
  exact bodyPost_ret (v := .tuple #[.agg #[.bool true, .int .i64 a, .int .u64 p, .int .i8 r.l, .int .i64 r.f], .int .i64 0]) (by simp [results, Try.results15, go_sem]) rfl ⟨rfl, up_to (h := by (repeat (first | with_reducible exact U2 | with_reducible apply Up.drew | with_reducible apply Up.alloc | with_reducible apply Up.ext | with_reducible refine Up.setRow _ _ U1.le ?_ | with_reducible refine Up.setRow _ _ (Nat.le_refl _) ?_)))⟩

theorem rbegin_any (root a p : Int) (l : List S) (v : Value) (w : World) (hv : Has S.enc w v l) (hl : l.length ≤ 1000) :
    Calls Try.prog 15 #[.int .i64 root, .int .i64 a, .int .u64 p, v] w fun e w' => e = .returned (.tuple #[.agg (beginC root a p l), .int .i64 (beginE root a p l)]) ∧ ∃ x, w' = ext w x := by
  by_cases h : beginOk root a p l
  · rw [beginC, if_pos h, beginE, if_pos h]
    by_cases hb : 0 < (bestR a p l).l
    · rw [if_pos hb]; exact rbegin_step root a p l v w hv hl h _ rfl hb
    · rw [if_neg hb]; exact rbegin_root root a p l v w hv hl h hb
  · rw [beginC, if_neg h, beginE, if_neg h]; exact rbegin_bad root a p l v w hv hl h
end Go.Proofs.Ytcjklghjnbhcdaa
