/- What Best tells. -/
import Derived.Test.YtcjklghjnbhcdaaWTlbG
namespace Go.Proofs.Ytcjklghjnbhcdaa
open Go.RowKit
attribute [local go_sem ↓] Go.wp_at_zero Go.wp_at_succ

def better (a q : Int) (b x : S) : Bool := (x.a == a) && ((begV q x.l == x.p) && decide (b.l < x.l))
def bestL (a q : Int) (l : List S) : S := l.foldl (fun b x => if better a q b x then x else b) ⟨0, 0, 0, 0⟩
theorem bestL_succ (a q : Int) (l : List S) (j : Nat) (x : S) (hx : l[j]? = some x) : bestL a q (l.take (j + 1)) = if better a q (bestL a q (l.take j)) x then x else bestL a q (l.take j) := by
  unfold bestL
  rw [List.take_add_one, hx]
  simp [List.foldl_append]

set_option maxHeartbeats 1000000 in
theorem Best1_any (W : World) (ba bq bb : Nat) [LtW ba W] [LtW bq W] [LtW bb W] (a q : Int) (b x : S) (hL : x.l = 1 ∨ x.l = 2 ∨ x.l = 3) (ha : W.cell? ⟨ba, 0, none⟩ = some (.int .i64 a)) (hq : W.cell? ⟨bq, 0, none⟩ = some (.int .u64 q)) (hb : W.cell? ⟨bb, 1, none⟩ = some (.int .i8 b.l)) (r : Bool) (hr : better a q b x = r) :
    Calls Try.prog 63 #[x.v, .pointer (some ⟨ba, 0, none⟩), .pointer (some ⟨bq, 0, none⟩), .pointer (some ⟨bb, 0, none⟩)] W fun e w' => e = .returned (.bool r) ∧ ∃ x, w' = ext W x := by
  obtain ⟨bv, hbv⟩ : ∃ bv, begV q x.l = bv := ⟨_, rfl⟩
  have hm : ((x.a == a) = false ∧ r = false) ∨ ((x.a == a) = true ∧ (bv == x.p) = false ∧ r = false) ∨ ((x.a == a) = true ∧ (bv == x.p) = true ∧ decide (b.l < x.l) = r) := by
    rw [← hr, better, hbv]
    cases (x.a == a) <;> cases (bv == x.p) <;> simp
  obtain ⟨xa, xl, xp, xf⟩ := x
  obtain ⟨b0, b1, b2, b3⟩ := b
  simp only at hL hbv hm hb
  clear hr
  rcases hm with ⟨h1, rfl⟩ | ⟨h1, h2, rfl⟩ | ⟨h1, h2, rfl⟩
  all_goals
    go_enter Try.func63, Try.ntmps63
    go_wp2
    refine wp_region_ext_lit (by kernel_rfl) (by kernel_rfl) ?_
    repeat (go_big_quiet_step ((go_at_call 64; exact extq (tbegins_any _ _ hL _ bv hbv))))
    refine wpQuiet_nil ?_
    rintro _ ⟨x, rfl⟩
    go_wp2
    go_ret
    exact ⟨rfl, up_to⟩

theorem best1_enters : ∀ args w, (callFunc 63 args).run Try.prog w = .ok (.enter 63 args) w := enters_of Try.func63 (by kernel_rfl) rfl
theorem may_lev {x : S} (h : x.may = true) : x.l = 1 ∨ x.l = 2 ∨ x.l = 3 := by
  simp only [S.may, decide_eq_true_eq] at h
  omega

set_option maxHeartbeats 1000000 in
theorem Best_no (l : List S) (v : Value) (a q : Int) (w : World) (hv : Has S.enc w v l) (hn : ¬ Chk mostS S.may S.same l) :
    Calls Try.prog 34 #[v, .int .i64 a, .int .u64 q] w fun e w' => e = .returned (.tuple #[stp 0 0 0 0, .bool false]) ∧ ∃ x, w' = ext w x := by
  have HV := Lib.hid hv; clear hv
  have he := chk_no hn
  clear hn
  go_enter Try.func34, Try.ntmps34
  go_wp2_with (first
    | (go_at_call 61; refine (steps_any _).mono ?_; rintro e w' ⟨rfl, z, rfl⟩)
    | (go_at_call 62; refine (scheck_any l v _ (HV.out.below up_below) 2 he).mono ?_; rintro e w' ⟨rfl, z, rfl⟩))
  set_option maxRecDepth 20000 in
  go_region_held3 (fun W => W.cell? ⟨w.heap.size + 1 + 1 + 1, 0, none⟩ = some (.int .i64 0) ∧ W.cell? ⟨w.heap.size + 1 + 1 + 1, 1, none⟩ = some (.int .i8 0) ∧ W.cell? ⟨w.heap.size + 1 + 1 + 1, 2, none⟩ = some (.int .u64 0) ∧ W.cell? ⟨w.heap.size + 1 + 1 + 1, 3, none⟩ = some (.int .i64 0))
    (first | (go_keep; done) | (refine ⟨?_, ?_, ?_, ?_⟩ <;> simp [go_sem])) (fail)
  go_wp2
  exact bodyPost_ret (v := .tuple #[stp 0 0 0 0, .bool false]) (by simp [results, Try.results34, go_sem]) rfl ⟨rfl, up_to⟩

/-- The world in which Best looks, b the best so far. -/
abbrev bestW (w : World) (a q : Int) (b : S) : World :=
  (((w.alloc (.cells #[.int .i64 a] 3)).alloc (.cells #[.int .u64 q] 30)).alloc (.cells #[.int .i64 0, .int .i8 0, .int .u64 0, .int .i64 0] 54)).alloc (.cells #[b.c0, b.c1, b.c2, b.c3] 54)

set_option maxHeartbeats 2000000 in
theorem Best_yes (l : List S) (v : Value) (a q : Int) (w : World) (hv : Has S.enc w v l) (hc : Chk mostS S.may S.same l) (r : S) (hr : bestL a q l = r) :
    Calls Try.prog 34 #[v, .int .i64 a, .int .u64 q] w fun e w' => e = .returned (.tuple #[r.v, .bool (decide (0 < r.l))]) ∧ ∃ x, w' = ext w x := by
  have he := chk_yes hc
  have HC := Lib.hid hc; clear hc
  have HR := Lib.hid hr; clear hr
  rcases hv with ⟨rfl, hv⟩ | ⟨hl0, b, o, cap, rfl, hcap, hb, hR⟩
  · have h1 : r = ⟨0, 0, 0, 0⟩ := HR.out.symm
    subst h1
    clear HR HC
    rcases hv with rfl | ⟨ad, cap, rfl⟩
    all_goals
      go_enter Try.func34, Try.ntmps34
      go_wp2_with (first
        | (go_at_call 61; refine (steps_any _).mono ?_; rintro e w' ⟨rfl, z, rfl⟩)
        | (go_at_call 62; refine (scheck_any [] _ _ (.inl ⟨rfl, by first | exact .inl rfl | exact .inr ⟨_, _, rfl⟩⟩) 0 he).mono ?_; rintro e w' ⟨rfl, z, rfl⟩))
      go_loopw [11, 19] (fun _ k wr => k = .int .i64 0 ∧ ∃ y, wr = ext (bestW w a q ⟨0, 0, 0, 0⟩) y) (fun _ _ _ => 0)
      case atStart => exact ⟨rfl, up_to⟩
      case round =>
        obtain ⟨rfl, y, rfl⟩ := hrel
        go_wp2_with fail
        set_option maxRecDepth 20000 in
        go_region_held3 (fun W => W.cell? ⟨w.heap.size + 1 + 1 + 1, 0, none⟩ = some (.int .i64 0) ∧ W.cell? ⟨w.heap.size + 1 + 1 + 1, 1, none⟩ = some (.int .i8 0) ∧ W.cell? ⟨w.heap.size + 1 + 1 + 1, 2, none⟩ = some (.int .u64 0) ∧ W.cell? ⟨w.heap.size + 1 + 1 + 1, 3, none⟩ = some (.int .i64 0))
          (first | (go_keep; done) | (refine ⟨?_, ?_, ?_, ?_⟩ <;> simp [go_sem])) (fail)
        go_wp2
        exact bodyPost_ret (v := .tuple #[stp 0 0 0 0, .bool false]) (by simp [results, Try.results34, go_sem]) rfl ⟨rfl, up_to⟩
  · have HRA := Lib.hid hR; clear hR
    have hl4 : (l.length : Int) ≤ 4 := by have := HC.out.1; simp only [mostS] at this; omega
    haveI : LtW b w := ⟨hb⟩
    go_enter Try.func34, Try.ntmps34
    go_wp2_with (first
      | (go_at_call 61; refine (steps_any _).mono ?_; rintro e w' ⟨rfl, z, rfl⟩)
      | (go_at_call 62; refine (scheck_any l _ _ ((show Has S.enc w _ l from .inr ⟨hl0, b, o, cap, rfl, hcap, hb, HRA.out⟩).below up_below) 0 he).mono ?_; rintro e w' ⟨rfl, z, rfl⟩))
    go_loopw [11, 19] (fun _ k wr => ∃ j : Nat, j ≤ l.length ∧ k = .int .i64 (j : Int) ∧ ∃ y, wr = ext (bestW w a q (bestL a q (l.take j))) y) (fun _ k _ => (l.length - intOf k).toNat)
    case atStart => exact ⟨0, by omega, by simp, (show ∃ y, _ = ext (bestW w a q ⟨0, 0, 0, 0⟩) y from up_to)⟩
    case round =>
      obtain ⟨j, hj, rfl, y, rfl⟩ := hrel
      by_cases hlt : j < l.length
      · obtain ⟨x, hx⟩ : ∃ x, l[j]? = some x := ⟨_, List.getElem?_eq_getElem hlt⟩
        have c0 : w.cell? ⟨b, o + j * 4, none⟩ = some x.c0 := HRA.out j x hx 0 _ rfl
        have c1 : w.cell? ⟨b, o + j * 4 + 1, none⟩ = some x.c1 := HRA.out j x hx 1 _ rfl
        have c2 : w.cell? ⟨b, o + j * 4 + 2, none⟩ = some x.c2 := HRA.out j x hx 2 _ rfl
        have c3 : w.cell? ⟨b, o + j * 4 + 3, none⟩ = some x.c3 := HRA.out j x hx 3 _ rfl
        have hsu := bestL_succ a q l j x hx
        have hlev := may_lev ((HC.out.2 j x hx).1)
        generalize bestL a q (l.take j) = B at hsu ⊢
        cases hbt : better a q B x
        · rw [hbt] at hsu
          have hsu2 : bestL a q (l.take (j + 1)) = B := hsu
          have HSU := Lib.hid hsu2; clear hsu hsu2
          go_wp2_with (go_at_call 63; refine (Best1_any _ _ _ _ a q B x hlev (by simp [go_sem]) (by simp [go_sem]) (by simp [go_sem]) false hbt).mono ?_; rintro e w' ⟨rfl, z, rfl⟩)
          go_roundw
          case rel => exact ⟨j + 1, by omega, by go_num, by rw [HSU.out]; exact up_to⟩
          case measure => simp [intOf]; omega
        · rw [hbt] at hsu
          have hsu2 : bestL a q (l.take (j + 1)) = x := hsu
          have HSU := Lib.hid hsu2; clear hsu hsu2
          go_wp2_with (go_at_call 63; refine (Best1_any _ _ _ _ a q B x hlev (by simp [go_sem]) (by simp [go_sem]) (by simp [go_sem]) true hbt).mono ?_; rintro e w' ⟨rfl, z, rfl⟩)
          go_roundw
          case rel => exact ⟨j + 1, by omega, by go_num, by rw [HSU.out]; exact up_to⟩
          case measure => simp [intOf]; omega
      · obtain rfl : j = l.length := by omega
        rw [List.take_length, HR.out]
        go_wp2_with fail
        set_option maxRecDepth 20000 in
        go_region_held3 (fun W => W.cell? ⟨w.heap.size + 1 + 1 + 1, 0, none⟩ = some r.c0 ∧ W.cell? ⟨w.heap.size + 1 + 1 + 1, 1, none⟩ = some r.c1 ∧ W.cell? ⟨w.heap.size + 1 + 1 + 1, 2, none⟩ = some r.c2 ∧ W.cell? ⟨w.heap.size + 1 + 1 + 1, 3, none⟩ = some r.c3)
          (first | (go_keep; done) | (refine ⟨?_, ?_, ?_, ?_⟩ <;> simp [go_sem])) (fail)
        go_wp2
        exact bodyPost_ret (v := .tuple #[r.v, .bool (decide (0 < r.l))]) (by simp [results, Try.results34, go_sem]) rfl ⟨rfl, up_to⟩
end Go.Proofs.Ytcjklghjnbhcdaa
