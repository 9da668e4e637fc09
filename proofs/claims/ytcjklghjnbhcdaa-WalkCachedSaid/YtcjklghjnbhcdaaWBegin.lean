/- Where a walk begins: package walk. -/
import Derived.Test.YtcjklghjnbhcdaaWWalk
import Derived.Test.YtcjklghjnbhcdaaWRefC
import Derived.Test.YtcjklghjnbhcdaaWTlbG
import Derived.Test.YtcjklghjnbhcdaaWWord
import Derived.Test.YtcjklghjnbhcdaaWRowT
import Derived.RegionTactic
import Derived.BigRegion
namespace Go.Proofs.Ytcjklghjnbhcdaa
open Go.RowKit

def beginOk (root a p : Int) (l : List S) : Prop := 1 ≤ root ∧ chkW true a p 0 root = 0 ∧ Chk mostS S.may S.same l
open Classical in
noncomputable def beginE (root a p : Int) (l : List S) : Int := if beginOk root a p l then 0 else 2
open Classical in
noncomputable def beginC (root a p : Int) (l : List S) : Array Value :=
  if beginOk root a p l then (if 0 < (bestR a p l).l then #[.bool true, .int .i64 a, .int .u64 p, .int .i8 (bestR a p l).l, .int .i64 (bestR a p l).f] else #[.bool true, .int .i64 a, .int .u64 p, .int .i8 0, .int .i64 root])
  else #[.bool false, .int .i64 0, .int .u64 0, .int .i8 0, .int .i64 0]

theorem begin_bad (root a p : Int) (l : List S) (v : Value) (w : World) (hv : Has S.enc w v l) (hn : ¬ beginOk root a p l) :
    Calls Try.prog 14 #[.int .i64 root, .int .i64 a, .int .u64 p, v] w fun e w' => e = .returned (.tuple #[.agg #[.bool false, .int .i64 0, .int .u64 0, .int .i8 0, .int .i64 0], .int .i64 2]) ∧ ∃ x, w' = ext w x := by
  by_cases h1 : root < 1
  · go_enter Try.func14, Try.ntmps14
    go_wp2_with fail
    exact bodyPost_ret (v := .tuple #[.agg #[.bool false, .int .i64 0, .int .u64 0, .int .i8 0, .int .i64 0], .int .i64 2]) (by simp [results, Try.results14, go_sem]) rfl ⟨rfl, up_to⟩
  · by_cases h2 : chkW true a p 0 root = 0
    · have h3 : ¬ Chk mostS S.may S.same l := fun h => hn ⟨by omega, h2, h⟩
      have HC := Lib.hid h2; have HK := Lib.hid (chk_no h3); have HV := Lib.hid hv
      clear h2 h3 hv hn
      go_enter Try.func14, Try.ntmps14
      go_wp2_with (first
        | (go_at_call 18; with_reducible refine (wcheck_any true a p 0 root _ 0 HC.out).mono ?_; rintro e w' ⟨rfl, z, rfl⟩; simp only [])
        | (go_at_call 33; with_reducible refine (CheckSteps_any l v _ (HV.out.below up_below) 2 HK.out).mono ?_; rintro e w' ⟨rfl, z, rfl⟩; simp only []))
      exact bodyPost_ret (v := .tuple #[.agg #[.bool false, .int .i64 0, .int .u64 0, .int .i8 0, .int .i64 0], .int .i64 2]) (by simp [results, Try.results14, go_sem]) rfl ⟨rfl, up_to⟩
    · have HC := Lib.hid (chk_two' h2)
      clear h2 hv hn
      go_enter Try.func14, Try.ntmps14
      go_wp2_with (go_at_call 18; with_reducible refine (wcheck_any true a p 0 root _ 2 HC.out).mono ?_; rintro e w' ⟨rfl, z, rfl⟩; simp only [])
      exact bodyPost_ret (v := .tuple #[.agg #[.bool false, .int .i64 0, .int .u64 0, .int .i8 0, .int .i64 0], .int .i64 2]) (by simp [results, Try.results14, go_sem]) rfl ⟨rfl, up_to⟩

theorem begin_root (root a p : Int) (l : List S) (v : Value) (w : World) (hv : Has S.enc w v l) (h : beginOk root a p l) (hb : ¬ 0 < (bestR a p l).l) :
    Calls Try.prog 14 #[.int .i64 root, .int .i64 a, .int .u64 p, v] w fun e w' => e = .returned (.tuple #[.agg #[.bool true, .int .i64 a, .int .u64 p, .int .i8 0, .int .i64 root], .int .i64 0]) ∧ ∃ x, w' = ext w x := by
  obtain ⟨h1, h2, h3⟩ := h
  have HC := Lib.hid h2; have HK := Lib.hid (chk_yes h3); have HV := Lib.hid hv; have HB := Lib.hid (decide_eq_false hb)
  clear h2 h3 hv hb
  go_enter Try.func14, Try.ntmps14
  go_wp2_with (first
    | (go_at_call 18; with_reducible refine (wcheck_any true a p 0 root _ 0 HC.out).mono ?_; rintro e w' ⟨rfl, z, rfl⟩; simp only [])
    | (go_at_call 33; with_reducible refine (CheckSteps_any l v _ (HV.out.below up_below) 0 HK.out).mono ?_; rintro e w' ⟨rfl, z, rfl⟩; simp only [])
    | (go_at_call 34; with_reducible refine (best_any l v a p _ (HV.out.below up_below) _ rfl false HB.out).mono ?_; rintro e w' ⟨rfl, z, rfl⟩; simp only []))
  exact bodyPost_ret (v := .tuple #[.agg #[.bool true, .int .i64 a, .int .u64 p, .int .i8 0, .int .i64 root], .int .i64 0]) (by simp [results, Try.results14, go_sem]) rfl ⟨rfl, up_to⟩

theorem begin_step (root a p : Int) (l : List S) (v : Value) (w : World) (hv : Has S.enc w v l) (h : beginOk root a p l) (r : S) (hr : bestR a p l = r) (hb : 0 < r.l) :
    Calls Try.prog 14 #[.int .i64 root, .int .i64 a, .int .u64 p, v] w fun e w' => e = .returned (.tuple #[.agg #[.bool true, .int .i64 a, .int .u64 p, .int .i8 r.l, .int .i64 r.f], .int .i64 0]) ∧ ∃ x, w' = ext w x := by
  obtain ⟨h1, h2, h3⟩ := h
  have HC := Lib.hid h2; have HK := Lib.hid (chk_yes h3); have HV := Lib.hid hv; have HB := Lib.hid (decide_eq_true hb); have HR := Lib.hid hr
  clear h2 h3 hv hb hr
  go_enter Try.func14, Try.ntmps14
  go_wp2_with (first
    | (go_at_call 18; with_reducible refine (wcheck_any true a p 0 root _ 0 HC.out).mono ?_; rintro e w' ⟨rfl, z, rfl⟩; simp only [])
    | (go_at_call 33; with_reducible refine (CheckSteps_any l v _ (HV.out.below up_below) 0 HK.out).mono ?_; rintro e w' ⟨rfl, z, rfl⟩; simp only [])
    | (go_at_call 34; with_reducible refine (best_any l v a p _ (HV.out.below up_below) r HR.out true HB.out).mono ?_
       rintro e w2 ⟨rfl, z, h2⟩
       have U2 : Up w.heap.size w w2 := (by rw [h2]; repeat (first | with_reducible exact Up.refl _ | with_reducible apply Up.drew | with_reducible apply Up.alloc | with_reducible apply Up.ext))
       have M2 : LtW w.heap.size w2 := (by subst h2; infer_instance)
       have M3 : LtW (w.heap.size + 1) w2 := (by subst h2; infer_instance)
       have R8 : RowW w.heap.size w2 #[.bool false, .int .i64 0, .int .u64 0, .int .i8 0, .int .i64 0] 39 := (by subst h2; infer_instance)
       have R10 : RowW (w.heap.size + 1) w2 #[.bool true, .int .i64 a, .int .u64 p, .int .i8 0, .int .i64 root] 39 := (by subst h2; infer_instance)
       have N1 : NeW w.heap.size (w.heap.size + 1) := ⟨by omega⟩
       have N2 : NeW (w.heap.size + 1) w.heap.size := ⟨by omega⟩
       clear h2))
  go_region
  go_wp2_with fail
  exact bodyPost_ret (v := .tuple #[.agg #[.bool true, .int .i64 a, .int .u64 p, .int .i8 r.l, .int .i64 r.f], .int .i64 0]) (by simp [results, Try.results14, go_sem]) rfl ⟨rfl, up_to (h := by (repeat (first | with_reducible exact U2 | with_reducible apply Up.drew | with_reducible apply Up.alloc | with_reducible apply Up.ext | with_reducible refine Up.setRow _ _ (Nat.le_succ _) ?_ | with_reducible refine Up.setRow _ _ (Nat.le_refl _) ?_)))⟩

theorem begin_any (root a p : Int) (l : List S) (v : Value) (w : World) (hv : Has S.enc w v l) :
    Calls Try.prog 14 #[.int .i64 root, .int .i64 a, .int .u64 p, v] w fun e w' => e = .returned (.tuple #[.agg (beginC root a p l), .int .i64 (beginE root a p l)]) ∧ ∃ x, w' = ext w x := by
  by_cases h : beginOk root a p l
  · rw [beginC, if_pos h, beginE, if_pos h]
    by_cases hb : 0 < (bestR a p l).l
    · rw [if_pos hb]; exact begin_step root a p l v w hv h _ rfl hb
    · rw [if_neg hb]; exact begin_root root a p l v w hv h hb
  · rw [beginC, if_neg h, beginE, if_neg h]; exact begin_bad root a p l v w hv h
end Go.Proofs.Ytcjklghjnbhcdaa
