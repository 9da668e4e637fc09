/- Check, Fill, Drop. -/
import Derived.Test.YtpolilljglfkoaaRowFin
import Derived.Test.YtpolilljglfkoaaTlbET
import Derived.Test.YtpolilljglfkoaaTlbFT
namespace Go.Proofs.Ytpolilljglfkoaa
open Go.RowKit
attribute [local go_sem ↓] Go.wp_at_zero Go.wp_at_succ

theorem Check_any (l : List E) (v : Value) (w : World) (hv : Has E.enc w v l) (r : Int) (hr : chkV mostT E.may E.same l = r) :
    Calls Try.prog 28 #[v] w fun e w' => e = .returned (.int .i64 r) ∧ ∃ x, w' = ext w x := by
  have HV := Lib.hid hv; clear hv
  go_enter Try.func28, Try.ntmps28
  go_wp2_with (first
    | (go_at_call 54; refine (tlbs_any _).mono ?_; rintro e w' ⟨rfl, z, rfl⟩)
    | (go_at_call 55; refine (tcheck_any l v _ (HV.out.below up_below) r hr).mono ?_; rintro e w' ⟨rfl, z, rfl⟩))
  go_ret
  exact ⟨rfl, up_to⟩

set_option maxHeartbeats 1000000 in
theorem Fill_no (l : List E) (v : Value) (x : E) (w : World) (hv : Has E.enc w v l) (hn : ¬ (Chk mostT E.may E.same l ∧ x.may = true)) :
    Calls Try.prog 29 #[v, x.v] w fun e w' => e = .returned (.tuple #[.slice none 0 0, .int .i64 2]) ∧ ∃ x, w' = ext w x := by
  have HV := Lib.hid hv; clear hv
  have HN := Lib.hid hn; clear hn
  go_enter Try.func29, Try.ntmps29
  go_wp2
  set_option maxRecDepth 20000 in
  go_region_held3 (fun W => W.cell? ⟨w.heap.size, 0, none⟩ = some x.c0 ∧ W.cell? ⟨w.heap.size, 1, none⟩ = some x.c1 ∧ W.cell? ⟨w.heap.size, 2, none⟩ = some x.c2 ∧ W.cell? ⟨w.heap.size, 3, none⟩ = some x.c3)
    (first | go_keep | (refine ⟨?_, ?_, ?_, ?_⟩ <;> simp [go_sem]))
    (first
      | (go_at_call 54; refine (tlbs_any _).mono ?_; rintro e w' ⟨rfl, z, rfl⟩)
      | (go_at_call 56; refine (tfill_no l v x _ (HV.out.below up_below) HN.out).mono ?_; rintro e w' ⟨rfl, z, rfl⟩))
  all_goals
    go_wp2
    go_ret2
    exact ⟨rfl, up_to⟩

set_option maxHeartbeats 1000000 in
theorem Fill_yes (l : List E) (v : Value) (x : E) (w : World) (hv : Has E.enc w v l) (hc : Chk mostT E.may E.same l) (hm : x.may = true) (L : List E) (hL : fillL mostT E.same l x = L) :
    Calls Try.prog 29 #[v, x.v] w fun e w' => ∃ v' y, e = .returned (.tuple #[v', .int .i64 0]) ∧ w' = ext w y ∧ Own E.enc (ext w y) w.heap.size v' L := by
  have HV := Lib.hid hv; clear hv
  have HN := Lib.hid hc; clear hc
  have HM := Lib.hid hm; clear hm
  have HL := Lib.hid hL; clear hL
  go_enter Try.func29, Try.ntmps29
  go_wp2
  set_option maxRecDepth 20000 in
  go_region_held3 (fun W => W.cell? ⟨w.heap.size, 0, none⟩ = some x.c0 ∧ W.cell? ⟨w.heap.size, 1, none⟩ = some x.c1 ∧ W.cell? ⟨w.heap.size, 2, none⟩ = some x.c2 ∧ W.cell? ⟨w.heap.size, 3, none⟩ = some x.c3)
    (first | go_keep | (refine ⟨?_, ?_, ?_, ?_⟩ <;> simp [go_sem]))
    (first
      | (go_at_call 54; refine (tlbs_any _).mono ?_; rintro e w' ⟨rfl, z, rfl⟩)
      | (go_at_call 56; refine (tfill_yes l v x _ (HV.out.below up_below) HN.out HM.out L HL.out).mono ?_; rintro e w' ⟨v', z, rfl, rfl, ho⟩; have HO := Lib.hid ho; clear ho))
  all_goals
    go_wp2
    go_ret2
    have h := HO.out.mono (base' := w.heap.size) (le_ext _ _ _ (by simp))
    simp only [ext_ext'] at h
    exact own_fin (fun v => .returned (.tuple #[v, .int .i64 0])) h

theorem Drop_no (l : List E) (v : Value) (k a q : Int) (w : World) (hv : Has E.enc w v l) (hn : ¬ Chk mostT E.may E.same l) :
    Calls Try.prog 31 #[v, tlbi k a q] w fun e w' => e = .returned (.slice none 0 0) ∧ ∃ x, w' = ext w x := by
  have HV := Lib.hid hv; clear hv
  have HN := Lib.hid hn; clear hn
  go_enter Try.func31, Try.ntmps31
  go_wp2
  set_option maxRecDepth 20000 in
  go_region_held3 (fun W => W.cell? ⟨w.heap.size, 0, none⟩ = some (.int .i8 k) ∧ W.cell? ⟨w.heap.size, 1, none⟩ = some (.int .i64 a) ∧ W.cell? ⟨w.heap.size, 2, none⟩ = some (.int .u64 q))
    (first | go_keep | (refine ⟨?_, ?_, ?_⟩ <;> simp [go_sem]))
    (first
      | (go_at_call 54; refine (tlbs_any _).mono ?_; rintro e w' ⟨rfl, z, rfl⟩)
      | (go_at_call 57; refine (tdrop_no l v _ k a q rfl _ (HV.out.below up_below) HN.out).mono ?_; rintro e w' ⟨rfl, z, rfl⟩))
  all_goals
    go_wp2
    go_ret
    exact ⟨rfl, up_to⟩

theorem Drop_yes (l : List E) (v : Value) (k a q : Int) (hq0 : 0 ≤ q) (hq1 : q < 18446744073709551616) (w : World) (hv : Has E.enc w v l) (hc : Chk mostT E.may E.same l) :
    Calls Try.prog 31 #[v, tlbi k a q] w fun e w' => ∃ v' y, e = .returned v' ∧ w' = ext w y ∧ Own E.enc (ext w y) w.heap.size v' (l.filter fun x => !E.hits k a q x) := by
  have HV := Lib.hid hv; clear hv
  have HN := Lib.hid hc; clear hc
  have HQ := Lib.hid hq1; clear hq1
  go_enter Try.func31, Try.ntmps31
  go_wp2
  set_option maxRecDepth 20000 in
  go_region_held3 (fun W => W.cell? ⟨w.heap.size, 0, none⟩ = some (.int .i8 k) ∧ W.cell? ⟨w.heap.size, 1, none⟩ = some (.int .i64 a) ∧ W.cell? ⟨w.heap.size, 2, none⟩ = some (.int .u64 q))
    (first | go_keep | (refine ⟨?_, ?_, ?_⟩ <;> simp [go_sem]))
    (first
      | (go_at_call 54; refine (tlbs_any _).mono ?_; rintro e w' ⟨rfl, z, rfl⟩)
      | (go_at_call 57; refine (tdrop_yes l v k a q hq0 HQ.out _ (HV.out.below up_below) HN.out).mono ?_; rintro e w' ⟨v', z, rfl, rfl, ho⟩; have HO := Lib.hid ho; clear ho))
  all_goals
    go_wp2
    go_ret
    have h := HO.out.mono (base' := w.heap.size) (le_ext _ _ _ (by simp))
    simp only [ext_ext'] at h
    exact own_fin (fun v => .returned v) h
end Go.Proofs.Ytpolilljglfkoaa
