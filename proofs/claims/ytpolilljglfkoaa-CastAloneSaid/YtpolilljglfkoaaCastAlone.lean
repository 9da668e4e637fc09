/- CastAlone walks to true. -/
import Derived.Test.YtpolilljglfkoaaAct
import Derived.Test.YtpolilljglfkoaaCastW
namespace Go.Proofs.Ytpolilljglfkoaa
open Go.RowKit

/-- The lengths that the law keeps. -/
def WaitsAt (W : World) (q : Nat) (rows : Nat → List P4) (k : Nat) : Prop := ∃ cs, W.heap[q]? = some (.cells cs 46 (0, 0)) ∧ cs.size = 9 ∧ ∀ j, 1 ≤ j → j < k → cs[j]? = some (.int .i64 ((rows j).length : Int))
theorem WaitsAt.lt {W : World} {q k : Nat} {rows : Nat → List P4} (h : WaitsAt W q rows k) : q < W.heap.size := by
  obtain ⟨cs, h1, _⟩ := h; exact (Array.getElem?_eq_some_iff.1 h1).1
theorem WaitsAt.below {W W' : World} {q k : Nat} {rows : Nat → List P4} (h : WaitsAt W q rows k) (hB : Below W.heap.size W W') : WaitsAt W' q rows k := by
  have hl := h.lt
  obtain ⟨cs, h1, h2⟩ := h; exact ⟨cs, (hB.block q hl).trans h1, h2⟩
theorem WaitsAt.cell {W : World} {q k : Nat} {rows : Nat → List P4} (h : WaitsAt W q rows k) (j : Nat) (h1 : 1 ≤ j) (h2 : j < k) : W.cell? ⟨q, j, none⟩ = some (.int .i64 ((rows j).length : Int)) := by
  obtain ⟨cs, h3, h4, h5⟩ := h; simp [World.cell?, h3, h5 j h1 h2]
theorem WaitsAt.some {W : World} {q k : Nat} {rows : Nat → List P4} (h : WaitsAt W q rows k) (j : Nat) (h1 : j < 9) : ∃ u, W.cell? ⟨q, j, none⟩ = some u := by
  obtain ⟨cs, h3, h4, h5⟩ := h; exact ⟨cs[j]'(by omega), by simp [World.cell?, h3, h4, h1]⟩
theorem WaitsAt.frozen {W : World} {q k : Nat} {rows : Nat → List P4} (h : WaitsAt W q rows k) (j : Nat) : W.frozen? ⟨q, j, none⟩ = false := by
  obtain ⟨cs, h3, h4, h5⟩ := h; simp [World.frozen?, h3]
theorem WaitsAt.set {W : World} {q k : Nat} {rows : Nat → List P4} (h : WaitsAt W q rows k) (hk : k < 9) : WaitsAt (W.setCell ⟨q, k, none⟩ (.int .i64 ((rows k).length : Int))) q rows (k + 1) := by
  obtain ⟨cs, h3, h4, h5⟩ := h
  refine ⟨cs.setIfInBounds k (.int .i64 ((rows k).length : Int)), by simp [World.setCell, Array.getElem?_modify, h3], by simpa using h4, fun j h6 h7 => ?_⟩
  by_cases e : j = k
  · subst e; simp [h4, hk]
  · rw [Array.getElem?_setIfInBounds, if_neg (Ne.symm e)]; exact h5 j h6 (by omega)
theorem WaitsAt.kept {Q : Nat → Prop} {W W' : World} {q k : Nat} {rows : Nat → List P4} (h : WaitsAt W q rows k) (hK : Kept Q W W') (hq : Q q) : WaitsAt W' q rows k := by
  have hl := h.lt
  obtain ⟨cs, h1, h2⟩ := h; exact ⟨cs, (hK.2 q hq hl).trans h1, h2⟩

set_option maxRecDepth 100000 in
set_option maxHeartbeats 4000000 in
theorem alone_go (n : Int) (l : List A5) (v : Value) (core : Int) (w : World) (hv : Acts w v l) :
    Calls Try.prog 4 #[.int .i64 n, v, .int .i64 core] w fun e w' => e = .returned (.bool true) ∧ ∃ x, w' = ext w x := by
  by_cases hn : n < 1 ∨ 8 < n
  · go_enter Try.func4, Try.ntmps4
    go_wp2_with (first
      | (go_at_call 9; with_reducible refine (new_no n _ hn).mono ?_; rintro e w' ⟨rfl, z, rfl⟩)
      | (go_at_call 10; with_reducible refine (wakes13 _).mono ?_; rintro e w' ⟨rfl, z, rfl⟩))
    go_ret
    exact ⟨rfl, up_to⟩
  · obtain ⟨N, rfl⟩ : ∃ N : Nat, n = (N : Int) := ⟨n.toNat, by omega⟩
    have hN1 : 1 ≤ N := by omega
    have hN8 : N ≤ 8 := by omega
    obtain ⟨ad, cap, rfl, hcells⟩ := hv
    have HC := Lib.hid hcells
    clear hcells hn
    by_cases h100 : l.length ≤ 100
    · have hlz : (l.length : Int) ≤ 100 := by omega
      go_enter Try.func4, Try.ntmps4
      go_wp2_with (go_at_call 9; with_reducible refine (new_yes N _ hN1 hN8).mono ?_; rintro e w1 ⟨rfl, h1⟩; have H1 := Lib.hid h1; clear h1)
      generalize w.heap.size = c at H1 ⊢
      go_loopw [32] (fun i wr => ∃ j : Nat, j ≤ l.length ∧ i = .int .i64 (j : Int) ∧ ∃ rows, Hid (CastOf w wr (fun _ => False) c N rows)) (fun i _ => (l.length - intOf i).toNat)
      case atStart => exact ⟨0, by omega, by simp, _, H1⟩
      case round =>
        obtain ⟨j, hj, rfl, rows, HR⟩ := hrel
        by_cases hlt : j < l.length
        · obtain ⟨x, hx⟩ : ∃ x, l[j]? = some x := ⟨_, List.getElem?_eq_getElem hlt⟩
          obtain ⟨b, o, rfl, hb, c0, c1, c2, c3, c4⟩ := HC.out j x hx
          have hBw := HR.out.up.below
          haveI : LtW b w := ⟨hb⟩
          haveI : LtW b wr := ⟨Nat.lt_of_lt_of_le hb HR.out.up.le⟩
          replace c0 := (hBw.cell (p := ⟨b, _, none⟩) hb).trans c0
          replace c1 := (hBw.cell (p := ⟨b, _, none⟩) hb).trans c1
          replace c2 := (hBw.cell (p := ⟨b, _, none⟩) hb).trans c2
          replace c3 := (hBw.cell (p := ⟨b, _, none⟩) hb).trans c3
          replace c4 := (hBw.cell (p := ⟨b, _, none⟩) hb).trans c4
          have HX := Lib.hid hx; have HBW := Lib.hid hBw
          clear hx hBw
          go_wp2_with fail
          refine (send_of (HR.out.below up_below) x.core x.k x.a x.p _ rfl _ rfl).mono ?_
          rintro e w2 ⟨rfl, h2, _⟩
          have H2 := Lib.hid h2; clear h2
          go_wp2_with fail
          go_roundw
          case rel => exact ⟨j + 1, by omega, by go_num, _, H2⟩
          case measure => simp [intOf]; omega
        · obtain rfl : j = l.length := by omega
          go_wp2_with fail
          have hO := HR.out.own (.cells #[.int .i64 0, .int .i64 0, .int .i64 0, .int .i64 0, .int .i64 0, .int .i64 0, .int .i64 0, .int .i64 0, .int .i64 0] 46)
          have hA : WaitsAt (wr.alloc (.cells #[.int .i64 0, .int .i64 0, .int .i64 0, .int .i64 0, .int .i64 0, .int .i64 0, .int .i64 0, .int .i64 0, .int .i64 0] 46)) wr.heap.size rows 1 :=
            ⟨_, heap_alloc_new wr _, rfl, fun j h1 h2 => by omega⟩
          have hqw : w.heap.size ≤ wr.heap.size := HR.out.up.le
          have hqc : ¬ c = wr.heap.size := by have := HR.out.lt; omega
          generalize wr.alloc (.cells #[.int .i64 0, .int .i64 0, .int .i64 0, .int .i64 0, .int .i64 0, .int .i64 0, .int .i64 0, .int .i64 0, .int .i64 0] 46) = W3 at hO hA ⊢
          generalize wr.heap.size = q at hO hA hqw hqc ⊢
          have HO := Lib.hid hO; have HA := Lib.hid hA; have HQW := Lib.hid hqw
          clear hO hA hqw HR H1 HC
          go_loopw [12] (fun i wr => ∃ k : Nat, 1 ≤ k ∧ k ≤ N + 1 ∧ i = .int .i64 (k : Int) ∧ Hid (CastOf w wr (fun b => False ∨ b = q) c N rows) ∧ Hid (WaitsAt wr q rows k)) (fun i _ => (N + 1 - intOf i).toNat)
          case atStart => exact ⟨1, by omega, by omega, by simp, HO, HA⟩
          case round =>
            clear HO HA
            obtain ⟨k, hk1, hk2, rfl, HO, HA⟩ := hrel
            haveI : LtW q wr := ⟨HA.out.lt⟩
            haveI : LtW c wr := ⟨HO.out.lt⟩
            by_cases hle : k ≤ N
            · have hkz : (k : Int) ≤ (N : Int) := by omega
              have hk9 : (k : Int) < 9 := by omega
              obtain ⟨u, k1⟩ := HA.out.some k (by omega)
              have k2 := HA.out.frozen k
              have hw : waitsR N rows (k : Int) = ((rows k).length : Int) := by rw [waitsR, if_pos (by omega)]; rfl
              have HW := Lib.hid hw; clear hw
              go_wp2_with (go_at_call 12; with_reducible refine (waits_of (HO.out.below up_below) (k : Int) _ HW.out).mono ?_; rintro e w' ⟨rfl, z, rfl⟩)
              go_roundw
              case rel => exact ⟨k + 1, by omega, by omega, by go_num, (HO.out.set q k _ (.inr rfl) HQW.out).below (ext_below _ _), (HA.out.set (by omega)).below (ext_below _ _)⟩
              case measure => simp [intOf]; omega
            · have hkz : (N : Int) < (k : Int) := by omega
              obtain rfl : k = N + 1 := by omega
              clear hk1 hk2 hle
              obtain ⟨e0, he0⟩ : ∃ e0, ackE N rows core = e0 := ⟨_, rfl⟩
              have HE0 := Lib.hid he0; clear he0
              go_wp2_with fail
              refine (ack_of HO.out core e0 HE0.out _ rfl _ rfl).mono ?_
              rintro e w4 ⟨rfl, h4, hK⟩
              have H4 := Lib.hid h4
              have HFEW : Hid (∀ k, k < 9 → (rows k).length ≤ 16) := HO.out.few
              have HA4 : Hid (WaitsAt w4 q rows (N + 1)) := HA.out.kept hK (.inr rfl)
              clear h4 hK HO HA
              haveI : LtW q w4 := ⟨HA4.out.lt⟩
              haveI : LtW c w4 := ⟨H4.out.lt⟩
              obtain ⟨X, hX⟩ : ∃ X, ackX N rows core = X := ⟨_, rfl⟩
              rw [hX]
              clear hX
              go_wp2_with fail
              have HFIN : Hid (∀ y, ∃ x, ext (w4.alloc (.cells #[.int .i8 X.k, .int .i64 X.a, .int .u64 X.p] 35)) y = ext w x) := fun y => ((H4.out.up.alloc _).ext y).to
              go_loopw [15, 16] (fun i _ W => ∃ k : Nat, 1 ≤ k ∧ k ≤ N + 1 ∧ i = .int .i64 (k : Int) ∧ ∃ y, W = ext (w4.alloc (.cells #[.int .i8 X.k, .int .i64 X.a, .int .u64 X.p] 35)) y) (fun i _ _ => (N + 1 - intOf i).toNat)
              case atStart => exact ⟨1, by omega, by omega, by simp, up_to⟩
              case round =>
                obtain ⟨k, hk1, hk2, rfl, y, rfl⟩ := hrel
                by_cases hle : k ≤ N
                · have hkz : (k : Int) ≤ (N : Int) := by omega
                  have hk9 : (k : Int) < 9 := by omega
                  have k1 := HA4.out.cell k hk1 (by omega)
                  have hrange : 1 ≤ (k : Int) ∧ (k : Int) ≤ (N : Int) := by omega
                  by_cases hkc : (k : Int) = core
                  · have hkc2 : ((k : Int) == core) = true := by simp [hkc]
                    subst hkc
                    cases hr : rows k with
                    | nil =>
                      have he : e0 = 4 := by rw [← HE0.out, ackE, if_pos hrange]; simp [hr]
                      subst he
                      have hw : waitsR N (ackR N rows (k : Int)) (k : Int) = ((rows k).length : Int) := by rw [waitsR, if_pos hrange, ackR, if_pos hrange]; simp [hr, upd]
                      have HW := Lib.hid hw; clear hw hr hrange
                      go_wp2_with (go_at_call 12; with_reducible refine (waits_of (H4.out.below up_below) (k : Int) _ HW.out).mono ?_; rintro e w' ⟨rfl, z, rfl⟩)
                      go_roundw
                      case rel => exact ⟨k + 1, by omega, by omega, by go_num, up_to⟩
                      case measure => simp [intOf]; omega
                    | cons y0 l0 =>
                      have he : e0 = 0 := by rw [← HE0.out, ackE, if_pos hrange]; simp [hr]
                      subst he
                      have hl0 : ((rows k).length : Int) = (l0.length : Int) + 1 := by rw [hr]; simp
                      rw [hl0] at k1
                      have hw : waitsR N (ackR N rows (k : Int)) (k : Int) = (l0.length : Int) := by rw [waitsR, if_pos hrange, ackR, if_pos hrange]; simp [hr, upd]
                      have hl16 : (l0.length : Int) ≤ 1000 := by have := HFEW.out k (by omega); rw [hr] at this; simp at this; omega
                      have HW := Lib.hid hw; clear hw hr hl0 hrange
                      go_wp2_with (go_at_call 12; with_reducible refine (waits_of (H4.out.below up_below) (k : Int) _ HW.out).mono ?_; rintro e w' ⟨rfl, z, rfl⟩)
                      go_roundw
                      case rel => exact ⟨k + 1, by omega, by omega, by go_num, up_to⟩
                      case measure => simp [intOf]; omega
                  · have hkc2 : ((k : Int) == core) = false := by simp; exact hkc
                    have hw : waitsR N (ackR N rows core) (k : Int) = ((rows k).length : Int) := by
                      rw [waitsR, if_pos hrange, ackR]
                      split
                      · simp only [Int.toNat_natCast]; rw [upd_other _ _ _ _ (by omega)]
                      · simp
                    have HW := Lib.hid hw; clear hw hrange hkc
                    go_wp2_with (go_at_call 12; with_reducible refine (waits_of (H4.out.below up_below) (k : Int) _ HW.out).mono ?_; rintro e w' ⟨rfl, z, rfl⟩)
                    go_roundw
                    case rel => exact ⟨k + 1, by omega, by omega, by go_num, up_to⟩
                    case measure => simp [intOf]; omega
                · have hkz : (N : Int) < (k : Int) := by omega
                  obtain rfl : k = N + 1 := by omega
                  clear hk1 hk2 hle
                  by_cases hc1 : 1 ≤ core
                  · by_cases hc2 : core ≤ (N : Int)
                    · obtain ⟨cn, rfl⟩ : ∃ cn : Nat, core = (cn : Int) := ⟨core.toNat, by omega⟩
                      have k1 := HA4.out.cell cn (by omega) (by omega)
                      have hc9 : (cn : Int) < 9 := by omega
                      have hrange : 1 ≤ (cn : Int) ∧ (cn : Int) ≤ (N : Int) := by omega
                      cases hr : rows cn with
                      | nil =>
                        have he : e0 = 4 := by rw [← HE0.out, ackE, if_pos hrange]; simp [hr]
                        subst he
                        rw [hr] at k1
                        clear hr hrange
                        go_wp2_with (go_at_call 10; with_reducible refine (wakes13 _).mono ?_; rintro e w' ⟨rfl, z, rfl⟩)
                        go_ret
                        exact ⟨rfl, HFIN.out _⟩
                      | cons y0 l0 =>
                        have he : e0 = 0 := by rw [← HE0.out, ackE, if_pos hrange]; simp [hr]
                        subst he
                        have hl0 : ((rows cn).length : Int) = (l0.length : Int) + 1 := by rw [hr]; simp
                        rw [hl0] at k1
                        have hpos : (0 : Int) < (l0.length : Int) + 1 := by omega
                        clear hr hrange hl0
                        go_wp2_with (go_at_call 10; with_reducible refine (wakes13 _).mono ?_; rintro e w' ⟨rfl, z, rfl⟩)
                        go_ret
                        exact ⟨rfl, HFIN.out _⟩
                    · have he : e0 = 2 := by rw [← HE0.out, ackE, if_neg (by omega)]
                      subst he
                      have hc3 : (N : Int) < core := by omega
                      clear hc2
                      go_wp2_with (go_at_call 10; with_reducible refine (wakes13 _).mono ?_; rintro e w' ⟨rfl, z, rfl⟩)
                      go_ret
                      exact ⟨rfl, HFIN.out _⟩
                  · have he : e0 = 2 := by rw [← HE0.out, ackE, if_neg (by omega)]
                    subst he
                    have hc3 : core < 1 := by omega
                    clear hc1
                    go_wp2_with (go_at_call 10; with_reducible refine (wakes13 _).mono ?_; rintro e w' ⟨rfl, z, rfl⟩)
                    go_ret
                    exact ⟨rfl, HFIN.out _⟩
    · have hlz : (100 : Int) < (l.length : Int) := by omega
      go_enter Try.func4, Try.ntmps4
      go_wp2_with (first
        | (go_at_call 9; with_reducible refine (new_yes N _ hN1 hN8).mono ?_; rintro e w1 ⟨rfl, h1⟩; have H1 := Lib.hid h1; clear h1)
        | (go_at_call 10; with_reducible refine (wakes13 _).mono ?_; rintro e w' ⟨rfl, z, rfl⟩))
      go_ret
      exact ⟨rfl, (H1.out.up.ext _).to⟩

theorem CastAlone_walk (w : World) (n : Int) (l : List A5) (v : Value) (core : Int) (_ : (Lit.int .i64 n).wf = true) (hv : Acts w v l) (_ : (Lit.int .i64 core).wf = true) :
    Calls Try.prog 4 #[.int .i64 n, v, .int .i64 core] w fun e w' => e = .returned (.bool true) ∧ ∃ x, w' = ext w x := alone_go n l v core w hv
end Go.Proofs.Ytpolilljglfkoaa
