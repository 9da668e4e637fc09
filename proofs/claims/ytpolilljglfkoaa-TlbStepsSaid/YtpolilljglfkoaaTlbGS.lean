/- CheckSteps, Keep, DropSteps. -/
import Derived.Test.YtpolilljglfkoaaRowFin
import Derived.Test.YtpolilljglfkoaaTlbES
import Derived.Test.YtpolilljglfkoaaTlbFS
namespace Go.Proofs.Ytpolilljglfkoaa
open Go.RowKit
attribute [local go_sem ↓] Go.wp_at_zero Go.wp_at_succ

theorem CheckSteps_any (l : List S) (v : Value) (w : World) (hv : Has S.enc w v l) (r : Int) (hr : chkV mostS S.may S.same l = r) :
    Calls Try.prog 24 #[v] w fun e w' => e = .returned (.int .i64 r) ∧ ∃ x, w' = ext w x := by
  have HV := Lib.hid hv; clear hv
  go_enter Try.func24, Try.ntmps24
  go_wp2_with (first
    | (go_at_call 48; refine (steps_any _).mono ?_; rintro e w' ⟨rfl, z, rfl⟩)
    | (go_at_call 49; refine (scheck_any l v _ (HV.out.below up_below) r hr).mono ?_; rintro e w' ⟨rfl, z, rfl⟩))
  go_ret
  exact ⟨rfl, up_to⟩

set_option maxHeartbeats 1000000 in
theorem Keep_no (l : List S) (v : Value) (x : S) (w : World) (hv : Has S.enc w v l) (hn : ¬ (Chk mostS S.may S.same l ∧ x.may = true)) :
    Calls Try.prog 32 #[v, x.v] w fun e w' => e = .returned (.tuple #[.slice none 0 0, .int .i64 2]) ∧ ∃ x, w' = ext w x := by
  have HV := Lib.hid hv; clear hv
  have HN := Lib.hid hn; clear hn
  go_enter Try.func32, Try.ntmps32
  go_wp2
  set_option maxRecDepth 20000 in
  go_region_held3 (fun W => W.cell? ⟨w.heap.size, 0, none⟩ = some x.c0 ∧ W.cell? ⟨w.heap.size, 1, none⟩ = some x.c1 ∧ W.cell? ⟨w.heap.size, 2, none⟩ = some x.c2 ∧ W.cell? ⟨w.heap.size, 3, none⟩ = some x.c3)
    (first | go_keep | (refine ⟨?_, ?_, ?_, ?_⟩ <;> simp [go_sem]))
    (first
      | (go_at_call 48; refine (steps_any _).mono ?_; rintro e w' ⟨rfl, z, rfl⟩)
      | (go_at_call 58; refine (sfill_no l v x _ (HV.out.below up_below) HN.out).mono ?_; rintro e w' ⟨rfl, z, rfl⟩))
  all_goals
    go_wp2
    go_ret2
    exact ⟨rfl, up_to⟩

set_option maxHeartbeats 1000000 in
theorem Keep_yes (l : List S) (v : Value) (x : S) (w : World) (hv : Has S.enc w v l) (hc : Chk mostS S.may S.same l) (hm : x.may = true) (L : List S) (hL : fillL mostS S.same l x = L) :
    Calls Try.prog 32 #[v, x.v] w fun e w' => ∃ v' y, e = .returned (.tuple #[v', .int .i64 0]) ∧ w' = ext w y ∧ Own S.enc (ext w y) w.heap.size v' L := by
  have HV := Lib.hid hv; clear hv
  have HN := Lib.hid hc; clear hc
  have HM := Lib.hid hm; clear hm
  have HL := Lib.hid hL; clear hL
  go_enter Try.func32, Try.ntmps32
  go_wp2
  set_option maxRecDepth 20000 in
  go_region_held3 (fun W => W.cell? ⟨w.heap.size, 0, none⟩ = some x.c0 ∧ W.cell? ⟨w.heap.size, 1, none⟩ = some x.c1 ∧ W.cell? ⟨w.heap.size, 2, none⟩ = some x.c2 ∧ W.cell? ⟨w.heap.size, 3, none⟩ = some x.c3)
    (first | go_keep | (refine ⟨?_, ?_, ?_, ?_⟩ <;> simp [go_sem]))
    (first
      | (go_at_call 48; refine (steps_any _).mono ?_; rintro e w' ⟨rfl, z, rfl⟩)
      | (go_at_call 58; refine (sfill_yes l v x _ (HV.out.below up_below) HN.out HM.out L HL.out).mono ?_; rintro e w' ⟨v', z, rfl, rfl, ho⟩; have HO := Lib.hid ho; clear ho))
  all_goals
    go_wp2
    go_ret2
    have h := HO.out.mono (base' := w.heap.size) (le_ext _ _ _ (by simp))
    simp only [ext_ext'] at h
    exact own_fin (fun v => .returned (.tuple #[v, .int .i64 0])) h

theorem DropSteps_no (l : List S) (v : Value) (k a q : Int) (w : World) (hv : Has S.enc w v l) (hn : ¬ Chk mostS S.may S.same l) :
    Calls Try.prog 27 #[v, tlbi k a q] w fun e w' => e = .returned (.slice none 0 0) ∧ ∃ x, w' = ext w x := by
  have HV := Lib.hid hv; clear hv
  have HN := Lib.hid hn; clear hn
  go_enter Try.func27, Try.ntmps27
  go_wp2
  set_option maxRecDepth 20000 in
  go_region_held3 (fun W => W.cell? ⟨w.heap.size, 0, none⟩ = some (.int .i8 k) ∧ W.cell? ⟨w.heap.size, 1, none⟩ = some (.int .i64 a) ∧ W.cell? ⟨w.heap.size, 2, none⟩ = some (.int .u64 q))
    (first | go_keep | (refine ⟨?_, ?_, ?_⟩ <;> simp [go_sem]))
    (first
      | (go_at_call 48; refine (steps_any _).mono ?_; rintro e w' ⟨rfl, z, rfl⟩)
      | (go_at_call 53; refine (sdrop_no l v _ k a q rfl _ (HV.out.below up_below) HN.out).mono ?_; rintro e w' ⟨rfl, z, rfl⟩))
  all_goals
    go_wp2
    go_ret
    exact ⟨rfl, up_to⟩

theorem DropSteps_yes (l : List S) (v : Value) (k a q : Int) (hq0 : 0 ≤ q) (hq1 : q < 18446744073709551616) (w : World) (hv : Has S.enc w v l) (hc : Chk mostS S.may S.same l) :
    Calls Try.prog 27 #[v, tlbi k a q] w fun e w' => ∃ v' y, e = .returned v' ∧ w' = ext w y ∧ Own S.enc (ext w y) w.heap.size v' (l.filter fun x => !S.hits k a q x) := by
  have HV := Lib.hid hv; clear hv
  have HN := Lib.hid hc; clear hc
  have HQ := Lib.hid hq1; clear hq1
  go_enter Try.func27, Try.ntmps27
  go_wp2
  set_option maxRecDepth 20000 in
  go_region_held3 (fun W => W.cell? ⟨w.heap.size, 0, none⟩ = some (.int .i8 k) ∧ W.cell? ⟨w.heap.size, 1, none⟩ = some (.int .i64 a) ∧ W.cell? ⟨w.heap.size, 2, none⟩ = some (.int .u64 q))
    (first | go_keep | (refine ⟨?_, ?_, ?_⟩ <;> simp [go_sem]))
    (first
      | (go_at_call 48; refine (steps_any _).mono ?_; rintro e w' ⟨rfl, z, rfl⟩)
      | (go_at_call 53; refine (sdrop_yes l v k a q hq0 HQ.out _ (HV.out.below up_below) HN.out).mono ?_; rintro e w' ⟨v', z, rfl, rfl, ho⟩; have HO := Lib.hid ho; clear ho))
  all_goals
    go_wp2
    go_ret
    have h := HO.out.mono (base' := w.heap.size) (le_ext _ _ _ (by simp))
    simp only [ext_ext'] at h
    exact own_fin (fun v => .returned v) h
end Go.Proofs.Ytpolilljglfkoaa
