/- SameSteps: a row is the same as itself. -/
import Derived.Test.YtpolilljglfkoaaTlbGS
namespace Go.Proofs.Ytpolilljglfkoaa
open Go.RowKit

set_option maxHeartbeats 1000000 in
theorem SameSteps_eq (l : List S) (v1 v2 : Value) (w : World) (hl : l.length ≤ 1000) (hv1 : Has S.enc w v1 l) (hv2 : Has S.enc w v2 l) :
    Calls Try.prog 38 #[v1, v2] w fun e w' => e = .returned (.bool true) ∧ ∃ x, w' = ext w x := by
  rcases hv1 with ⟨rfl, hv1⟩ | ⟨hl0, b1, o1, cap1, rfl, hcap1, hb1, hR1⟩
  · rcases hv2 with ⟨_, hv2⟩ | ⟨h, _⟩
    · clear hl
      rcases hv1 with rfl | ⟨ad, cap, rfl⟩ <;> rcases hv2 with rfl | ⟨ad', cap', rfl⟩
      all_goals
        go_enter Try.func38, Try.ntmps38
        go_wp2_with fail
        go_loopw [5] (fun k wr => k = .int .i64 0 ∧ ∃ y, wr = ext w y) (fun _ _ => 0)
        case atStart => exact ⟨rfl, up_to⟩
        case round =>
          obtain ⟨rfl, y, rfl⟩ := hrel
          go_wp2_with fail
          go_ret
          exact ⟨rfl, up_to⟩
    · exact (h rfl).elim
  · rcases hv2 with ⟨h, _⟩ | ⟨_, b2, o2, cap2, rfl, hcap2, hb2, hR2⟩
    · exact (hl0 h).elim
    · have hlz : (l.length : Int) ≤ 1000 := by omega
      clear hl
      haveI : LtW b1 w := ⟨hb1⟩
      haveI : LtW b2 w := ⟨hb2⟩
      have HR1 := Lib.hid hR1; clear hR1
      have HR2 := Lib.hid hR2; clear hR2
      go_enter Try.func38, Try.ntmps38
      go_wp2_with fail
      go_loopw [5] (fun k wr => ∃ j : Nat, j ≤ l.length ∧ k = .int .i64 (j : Int) ∧ ∃ y, wr = ext w y) (fun k _ => (l.length - intOf k).toNat)
      case atStart => exact ⟨0, by omega, by simp, up_to⟩
      case round =>
        obtain ⟨j, hj, rfl, y, rfl⟩ := hrel
        by_cases hlt : j < l.length
        · obtain ⟨x, hx⟩ : ∃ x, l[j]? = some x := ⟨_, List.getElem?_eq_getElem hlt⟩
          have c0 : w.cell? ⟨b1, o1 + j * 4, none⟩ = some x.c0 := HR1.out j x hx 0 _ rfl
          have c1 : w.cell? ⟨b1, o1 + j * 4 + 1, none⟩ = some x.c1 := HR1.out j x hx 1 _ rfl
          have c2 : w.cell? ⟨b1, o1 + j * 4 + 2, none⟩ = some x.c2 := HR1.out j x hx 2 _ rfl
          have c3 : w.cell? ⟨b1, o1 + j * 4 + 3, none⟩ = some x.c3 := HR1.out j x hx 3 _ rfl
          have d0 : w.cell? ⟨b2, o2 + j * 4, none⟩ = some x.c0 := HR2.out j x hx 0 _ rfl
          have d1 : w.cell? ⟨b2, o2 + j * 4 + 1, none⟩ = some x.c1 := HR2.out j x hx 1 _ rfl
          have d2 : w.cell? ⟨b2, o2 + j * 4 + 2, none⟩ = some x.c2 := HR2.out j x hx 2 _ rfl
          have d3 : w.cell? ⟨b2, o2 + j * 4 + 3, none⟩ = some x.c3 := HR2.out j x hx 3 _ rfl
          have hj0 : (0 : Int) ≤ (j : Int) := by omega
          have hj1 : (j : Int) < (l.length : Int) := by omega
          go_wp2_with fail
          go_quiet (fail)
          go_wp2
          go_roundw
          case rel => exact ⟨j + 1, by omega, by go_num, up_to⟩
          case measure => simp [intOf]; omega
        · obtain rfl : j = l.length := by omega
          go_wp2_with fail
          go_ret
          exact ⟨rfl, up_to⟩
end Go.Proofs.Ytpolilljglfkoaa
