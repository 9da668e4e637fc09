/- The pairs of a cast, one by one: what pairs tells any loop body. -/
import Derived.RangeFuncNested
import Derived.RangeFuncBound
import Derived.RangeFuncCalls
import Derived.RangeFuncLeaves
import Derived.Shelf.Abstract
import Derived.Shelf.RegionOpen
import Derived.OwnWalkIn
import Derived.TacticsInMore
import Derived.LoopNIn
import Derived.LoopIn
import Derived.Lib.Hide
import Derived.Test.YtpolilljglfkoaaCastA
namespace Go.Proofs.Ytpolilljglfkoaa
open Go.RowKit Go.Shelf
attribute [local go_sem] Oper.semAt_some

/-- The pairs of the cores below k. -/
def pairsUp (rows : Nat → List P4) (k : Nat) : List (Nat × P4) := (List.range k).flatMap fun j => (rows j).map fun p => (j, p)
theorem pairsUp_succ (rows : Nat → List P4) (k : Nat) : pairsUp rows (k + 1) = pairsUp rows k ++ (rows k).map fun p => (k, p) := by
  unfold pairsUp; rw [List.range_succ, List.flatMap_append]; simp
theorem pairsUp_pre (rows : Nat → List P4) (k m : Nat) (h : k ≤ m) : pairsUp rows k <+: pairsUp rows m := by
  induction m with
  | zero => obtain rfl : k = 0 := by omega
            exact List.prefix_refl _
  | succ m ih =>
    by_cases hk : k = m + 1
    · subst hk; exact List.prefix_refl _
    · exact (ih (by omega)).trans (by rw [pairsUp_succ]; exact List.prefix_append _ _)
theorem pairsUp_len (rows : Nat → List P4) (k : Nat) (h : ∀ j, j < k → (rows j).length ≤ 16) : (pairsUp rows k).length ≤ 16 * k := by
  induction k with
  | zero => simp [pairsUp]
  | succ k ih =>
    rw [pairsUp_succ, List.length_append, List.length_map]
    have := ih fun j hj => h j (by omega)
    have := h k (by omega)
    omega
abbrev upto (rows : Nat → List P4) (k j : Nat) : List (Nat × P4) := pairsUp rows k ++ ((rows k).take j).map fun p => (k, p)
theorem upto_zero (rows : Nat → List P4) (k : Nat) : upto rows k 0 = pairsUp rows k := by simp [upto]
theorem upto_succ (rows : Nat → List P4) (k j : Nat) (x : P4) (hx : (rows k)[j]? = some x) : upto rows k (j + 1) = upto rows k j ++ [(k, x)] := by
  unfold upto; rw [List.take_add_one, hx]; simp
theorem upto_all (rows : Nat → List P4) (k : Nat) : upto rows k (rows k).length = pairsUp rows (k + 1) := by
  unfold upto; rw [List.take_length, pairsUp_succ]
theorem upto_pre (rows : Nat → List P4) (k j : Nat) (hk : k < 9) : upto rows k j <+: pairsUp rows 9 := by
  have h1 : upto rows k j <+: pairsUp rows (k + 1) := by
    unfold upto; rw [pairsUp_succ]
    exact (List.prefix_append_right_inj _).2 ((List.take_prefix j (rows k)).map _)
  exact h1.trans (pairsUp_pre rows _ _ (by omega))

abbrev pairV (x : Nat × P4) : Array Value := #[.int .i64 (x.1 : Int), x.2.v]

set_option maxHeartbeats 2000000 in
theorem pairs1_stops (F : Fence) (nn : Nat) (h6 : F.fn 65) (hro : F.round = none) (hn : 1 ≤ nn) (Bn n₀ c n : Nat) (G : Nat → Prop) (rows : Nat → List P4) (vs : Nat → Value) (w : World) (hC : CastAt G w c n rows vs) (hB0 : w.heap.size ≤ n₀) (hBw : Bn < w.heap.size) (hBn : w.cell? ⟨Bn, 0, none⟩ = some (.pointer (some ⟨c, 0, none⟩))) :
    SeqStopsK F nn Try.prog 65 #[.pointer (some ⟨Bn, 0, none⟩)] pairV (Below n₀) (fun xs => xs = pairsUp rows 9) (fun p => p <+: pairsUp rows 9) 144 w := fun l J Jx W hW hJ hJx hY h0 => by
  refine callsIn_of_wp Try.func65 rfl h6 ?_ hro
  simp only [Try.ntmps65, List.size_toArray, List.length_cons, List.length_nil, Nat.reduceAdd, Nat.reduceSub, Array.replicate_succ, Array.replicate_zero, List.push_toArray, List.append_toArray, List.nil_append, List.cons_append]
  have hB : Below w.heap.size w W := hW
  have hBnW : W.cell? ⟨Bn, 0, none⟩ = some (.pointer (some ⟨c, 0, none⟩)) := (hB.cell (p := ⟨Bn, 0, none⟩) hBw).trans hBn
  have HC : Hid (CastAt G w c n rows vs) := hC
  have r0 : W.cell? ⟨c, 1, none⟩ = some (vs 0) := (hB.cell (p := ⟨c, 1, none⟩) hC.lt).trans (hC.cr 0 (by omega))
  have r1 : W.cell? ⟨c, 2, none⟩ = some (vs 1) := (hB.cell (p := ⟨c, 2, none⟩) hC.lt).trans (hC.cr 1 (by omega))
  have r2 : W.cell? ⟨c, 3, none⟩ = some (vs 2) := (hB.cell (p := ⟨c, 3, none⟩) hC.lt).trans (hC.cr 2 (by omega))
  have r3 : W.cell? ⟨c, 4, none⟩ = some (vs 3) := (hB.cell (p := ⟨c, 4, none⟩) hC.lt).trans (hC.cr 3 (by omega))
  have r4 : W.cell? ⟨c, 5, none⟩ = some (vs 4) := (hB.cell (p := ⟨c, 5, none⟩) hC.lt).trans (hC.cr 4 (by omega))
  have r5 : W.cell? ⟨c, 6, none⟩ = some (vs 5) := (hB.cell (p := ⟨c, 6, none⟩) hC.lt).trans (hC.cr 5 (by omega))
  have r6 : W.cell? ⟨c, 7, none⟩ = some (vs 6) := (hB.cell (p := ⟨c, 7, none⟩) hC.lt).trans (hC.cr 6 (by omega))
  have r7 : W.cell? ⟨c, 8, none⟩ = some (vs 7) := (hB.cell (p := ⟨c, 8, none⟩) hC.lt).trans (hC.cr 7 (by omega))
  have r8 : W.cell? ⟨c, 9, none⟩ = some (vs 8) := (hB.cell (p := ⟨c, 9, none⟩) hC.lt).trans (hC.cr 8 (by omega))
  have hidx : ∀ (k : Nat) (w : World), k < 9 → (Instr.index 82 (.agg #[vs 0, vs 1, vs 2, vs 3, vs 4, vs 5, vs 6, vs 7, vs 8]) (.int .i64 (k : Int))).run Try.prog w = .ok (vs k) w := by
    intro k w hk
    rcases (by omega : k = 0 ∨ k = 1 ∨ k = 2 ∨ k = 3 ∨ k = 4 ∨ k = 5 ∨ k = 6 ∨ k = 7 ∨ k = 8) with rfl | rfl | rfl | rfl | rfl | rfl | rfl | rfl | rfl <;> (show _ = _; kernel_rfl)
  have HI := Lib.hid hidx
  clear hidx hC
  have HL : Hid (∀ k, k < 9 → (pairsUp rows k).length + (rows k).length ≤ 144) := fun k hk => by
    have h1 := pairsUp_len rows k (fun j hj => HC.out.few j (by omega))
    have h2 := HC.out.few k hk
    omega
  clear hW
  gi_wp2
  gi_loopw [11] (fun p wr => ∃ k : Nat, k ≤ 9 ∧ p = .int .i64 (k : Int) ∧ J (pairsUp rows k) wr ∧ Hid (Below w.heap.size w wr) ∧ Hid (W.heap.size ≤ wr.heap.size)) (fun p _ => 9 - (intOf p).toNat)
  case atStart => exact ⟨0, by omega, rfl, by simpa [pairsUp] using h0, hB, Nat.le_refl _⟩
  case round =>
    obtain ⟨k, hk, rfl, hJs, HB, HS⟩ := hrel
    clear hB hBnW r0 r1 r2 r3 r4 r5 r6 r7 r8
    by_cases hlt : k < 9
    · have hkz : (k : Int) < 9 := by omega
      rcases (HC.out.row k hlt).shape with ⟨hv, hr⟩ | ⟨g, o, cap, hv, hs⟩
      · have hi : ∀ w, (Instr.index 82 (.agg #[vs 0, vs 1, vs 2, vs 3, vs 4, vs 5, vs 6, vs 7, vs 8]) (.int .i64 (k : Int))).run Try.prog w = .ok (.slice none 0 0) w := fun w => by rw [HI.out k w hlt, hv]
        have HR := Lib.hid hr; have HV := Lib.hid hv
        clear hr hv
        obtain ⟨wo, rfl⟩ : ∃ wo : World, wo = wr := ⟨_, rfl⟩
        gi_wp2
        gi_loopw [17] (fun p wr' => p = .int .i64 0 ∧ wr' = wo) (fun _ _ => 0)
        case atStart => exact ⟨rfl, rfl⟩
        case round =>
          obtain ⟨rfl, rfl⟩ := hrel
          gi_wp2
          go_roundw
          case rel => exact ⟨k + 1, by omega, by go_num, by rw [pairsUp_succ, HR.out]; simpa using hJs, HB, HS⟩
          case measure => simp [intOf]; omega
      · have hi : ∀ w, (Instr.index 82 (.agg #[vs 0, vs 1, vs 2, vs 3, vs 4, vs 5, vs 6, vs 7, vs 8]) (.int .i64 (k : Int))).run Try.prog w = .ok (.slice (some ⟨g, o, none⟩) (rows k).length cap) w := fun w => by rw [HI.out k w hlt, hv]
        have HV := Lib.hid hv; have HSL := Lib.hid hs
        have hfew := HC.out.few k hlt
        clear hv hs
        obtain ⟨wo, rfl⟩ : ∃ wo : World, wo = wr := ⟨_, rfl⟩
        gi_wp2
        gi_loopw [17] (fun p wr' => ∃ j : Nat, j ≤ (rows k).length ∧ p = .int .i64 (j : Int) ∧ J (upto rows k j) wr' ∧ Hid (Below w.heap.size w wr') ∧ Hid (W.heap.size ≤ wr'.heap.size)) (fun p _ => (rows k).length - (intOf p).toNat)
        case atStart => exact ⟨0, by omega, rfl, by rw [upto_zero]; exact hJs, HB, HS⟩
        case round =>
          obtain ⟨j, hj, rfl, hJ2, HB2, HS2⟩ := hrel
          clear HB HS hJs
          by_cases hjl : j < (rows k).length
          · obtain ⟨x, hx⟩ : ∃ x, (rows k)[j]? = some x := ⟨_, List.getElem?_eq_getElem hjl⟩
            have hgl : g < w.heap.size := HSL.out.lt
            have c0 : wr.cell? ⟨g, o + j * 4, none⟩ = some x.c0 := (HB2.out.cell (p := ⟨g, _, none⟩) hgl).trans (HSL.out.row j x hx 0 _ rfl)
            have c1 : wr.cell? ⟨g, o + j * 4 + 1, none⟩ = some x.c1 := (HB2.out.cell (p := ⟨g, _, none⟩) hgl).trans (HSL.out.row j x hx 1 _ rfl)
            have c2 : wr.cell? ⟨g, o + j * 4 + 2, none⟩ = some x.c2 := (HB2.out.cell (p := ⟨g, _, none⟩) hgl).trans (HSL.out.row j x hx 2 _ rfl)
            have c3 : wr.cell? ⟨g, o + j * 4 + 3, none⟩ = some x.c3 := (HB2.out.cell (p := ⟨g, _, none⟩) hgl).trans (HSL.out.row j x hx 3 _ rfl)
            have hJ3 : J (upto rows k j) (wr.alloc (.cells #[x.c0, x.c1, x.c2, x.c3] 88)) := hJ _ _ _ none hJ2 (World.grownBy_alloc _ _ _) (fun r e => by cases e)
            have hlen : (upto rows k j).length < 144 := by
              have := HL.out k hlt
              simp only [upto, List.length_append, List.length_map, List.length_take]
              omega
            have hsu := upto_succ rows k j x hx
            have hpre := upto_pre rows k (j + 1) hlt
            obtain ⟨fn, tmps, assign, body, hy, hR⟩ := hY (upto rows k j) (k, x) _ hJ3 hlen
            rw [← hsu] at hR
            have HB3 : Hid (Below w.heap.size w (wr.alloc (.cells #[x.c0, x.c1, x.c2, x.c3] 88))) := HB2.out.alloc HB2.out.size _
            have HSU := Lib.hid hsu; have HPRE := Lib.hid hpre; have HX := Lib.hid hx
            have hw0 : wr.heap.size ≤ (wr.alloc (.cells #[x.c0, x.c1, x.c2, x.c3] 88)).heap.size := by simp
            have HW0 := Lib.hid hw0
            clear hJ3 hJ2 hlen hsu hpre hx hw0
            gi_wp2
            refine hR.mono ?_
            rintro e W3 (⟨rfl, hJ3, hk3⟩ | ⟨rfl, hJx3⟩)
            · gi_wp2
              go_roundw
              case rel => exact ⟨j + 1, by omega, by go_num, hJ3, HB3.out.trans (hk3.mono hB0), Nat.le_trans HS2.out (Nat.le_trans HW0.out hk3.size)⟩
              case measure => simp [intOf]; omega
            · gi_wp2
              refine bodyPost_ret (results_none rfl _ _ _) rfl ?_
              exact ⟨⟨_, rfl⟩, .inr ⟨_, HPRE.out, hJx3⟩⟩
          · obtain rfl : j = (rows k).length := by omega
            gi_wp2
            go_roundw
            case rel => exact ⟨k + 1, by omega, by go_num, by rw [← upto_all]; exact hJ2, HB2, HS2⟩
            case measure => simp [intOf]; omega
    · obtain rfl : k = 9 := by omega
      gi_wp2
      go_end0
      exact ⟨⟨_, rfl⟩, .inl ⟨_, rfl, hJs⟩⟩
end Go.Proofs.Ytpolilljglfkoaa
