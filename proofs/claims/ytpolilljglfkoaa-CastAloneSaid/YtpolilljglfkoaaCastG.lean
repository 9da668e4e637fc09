/- Done of the cast. -/
import Derived.Test.YtpolilljglfkoaaCastF
namespace Go.Proofs.Ytpolilljglfkoaa
open Go.RowKit Go.Shelf
attribute [local go_sem] Oper.semAt_some

theorem pairs_any (c : Nat) (w : World) : Calls Try.prog 44 #[.pointer (some ⟨c, 0, none⟩)] w fun e w' => e = .returned (.func (.func 65) #[] #[.pointer (some ⟨w.heap.size, 0, none⟩)]) ∧ w' = w.alloc (.cells #[.pointer (some ⟨c, 0, none⟩)] 24) := by
  go_enter Try.func44, Try.ntmps44
  go_wp2
  go_ret
  exact ⟨rfl, rfl⟩

set_option maxRecDepth 100000 in
set_option maxHeartbeats 4000000 in
theorem done_in {G : Nat → Prop} {w : World} {c n : Nat} {rows : Nat → List P4} {vs : Nat → Value} (h : CastAt G w c n rows vs) (core : Int) :
    CallsIn Fence.wide 9 Try.prog 15 #[.pointer (some ⟨c, 0, none⟩), .int .i64 core] w fun e w' => e = .returned (.bool ((pairsUp rows 9).all fun x => !(x.2.s == core))) ∧ Below w.heap.size w w' := by
  refine callsIn_of_wp_marks Try.func15 rfl trivial ?_ rfl
  simp only [Try.ntmps15, List.size_toArray, List.length_cons, List.length_nil, Nat.reduceAdd, Nat.reduceSub, Array.replicate_succ, Array.replicate_zero, List.push_toArray, List.append_toArray, List.nil_append, List.cons_append]
  haveI : LtW c w := ⟨h.lt⟩
  have HH := Lib.hid h
  clear h
  gi_wp2_with (refine ⟨trivial, ?_⟩; gi_at_call 44; refine (callsIn_wide.2 (pairs_any c _)).mono ?_; rintro e w' ⟨rfl, rfl⟩)
  obtain ⟨W0, hW0⟩ : ∃ W0, ((w.alloc (.cells #[.int .i64 core] 3)).alloc (.cells #[.bool false] 4)).alloc (.cells #[.pointer (some ⟨c, 0, none⟩)] 24) = W0 := ⟨_, rfl⟩
  have hs0 : W0.heap.size = w.heap.size + 3 := by rw [← hW0]; simp
  have hB0 : Below w.heap.size w W0 := by rw [← hW0]; exact up_below
  have b0 : Boxed W0 w.heap.size 3 (.int .i64 core) := by rw [← hW0]; exact ((Boxed.new w _ _).alloc _).alloc _
  have b1 : Boxed W0 (w.heap.size + 1) 4 (.bool false) := by
    rw [← hW0]
    have := Boxed.new (w.alloc (.cells #[.int .i64 core] 3)) 4 (.bool false)
    rw [World.size_alloc] at this
    exact this.alloc _
  have b2 : W0.cell? ⟨w.heap.size + 1 + 1, 0, none⟩ = some (.pointer (some ⟨c, 0, none⟩)) := by rw [← hW0]; simp [go_sem]
  rw [hW0]
  clear hW0
  refine wpIn_rangeFunc_ownH rfl (by decide) (gf := 65) (lb := #[.pointer (some ⟨w.heap.size + 1 + 1, 0, none⟩)]) rfl trivial (enters_of Try.func65 (by kernel_rfl) rfl)
    (pairs1_stops Fence.wide 8 trivial rfl (by decide) (w.heap.size + 1 + 1) W0.heap.size c n G rows vs W0 (HH.out.below hB0) (Nat.le_refl _) (by omega) b2) belowK_t (belowK_b (Nat.le_refl _)) (Below.refl _ _) (fun _ => rfl)
    (fun p W => (((∀ x ∈ p, (x.2.s == core) = false) ∧ Boxed W w.heap.size 3 (.int .i64 core)) ∧ Boxed W (w.heap.size + 1) 4 (.bool false)) ∧ Below W0.heap.size W0 W)
    (fun c p W => ((c = .ret ∧ ∃ x ∈ p, (x.2.s == core) = true) ∧ Boxed W (w.heap.size + 1) 4 (.bool false)) ∧ Below w.heap.size w W)
    (OwnFrom.and (OwnFrom.and (OwnFrom.and (ownFrom_pure _ _) (Own.from (boxed_own _ _ (fun _ => .int .i64 core)) _)) (Own.from (boxed_own _ _ (fun _ => .bool false)) _)) (ownFrom_below (Nat.le_refl _) (Nat.le_refl _)))
    (fun c => OwnFrom.and (OwnFrom.and (ownFrom_pure _ _) (Own.from (boxed_own _ _ (fun _ => .bool false)) _)) (ownFrom_below (Nat.le_refl _) (by omega)))
    ⟨⟨⟨fun x hx => by simp at hx, b0⟩, b1⟩, Below.refl _ _⟩
    (fun x a' W => ∃ Bx, W.heap[Bx]? = some (.cells #[x.2.c0, x.2.c1, x.2.c2, x.2.c3] 88 (0, 0)) ∧ a' = { tmps := #[.pointer (some ⟨c, 0, none⟩), .int .i64 core, undef, .pointer (some ⟨w.heap.size, 0, none⟩), .pointer (some ⟨w.heap.size + 1, 0, none⟩), undef, .pointer (some ⟨Bx, 0, none⟩), .pointer (some ⟨c, 0, none⟩), .bool false, .pointer (some ⟨c, 0, none⟩), .func (.func 65) #[] #[.pointer (some ⟨w.heap.size + 1 + 1, 0, none⟩)], .int .i64 (x.1 : Int), x.2.v, undef, undef, undef, undef], defers := [] })
    (fun x a' _ X Y row hs hg hr => by
      obtain ⟨Bx, h2, h3⟩ := hs
      exact ⟨Bx, (hg.block Bx (Array.getElem?_eq_some_iff.1 h2).1 (fun e => by obtain ⟨_, o, ho, hc⟩ := hr Bx e.symm; rw [h2] at ho; cases ho; cases hc)).trans h2, h3⟩)
    ?assign ?body ?done ?stop
  case assign =>
    rintro l pre x W K ⟨⟨⟨h0, h1⟩, h2⟩, hB1⟩ hK
    gi_wp2
    exact hK _ _ ((KeepsOthers.alloc _ _).from _) ((Below.refl _ W).alloc hB1.size _) ⟨⟨⟨h0, h1.alloc _⟩, h2.alloc _⟩, hB1.alloc hB1.size _⟩ ⟨W.heap.size, heap_alloc_new W _, rfl⟩
  case body =>
    rintro l pre x a' W hl ⟨r, hr⟩ ⟨⟨⟨h0, h1⟩, h2⟩, hB1⟩ ⟨Bx, bX, rfl⟩ hlt
    have d0 := h1.cell
    have d1 := h2.cell
    have f1 := h2.frozen
    have x0 : W.cell? ⟨Bx, 0, none⟩ = some x.2.c0 := by simp [World.cell?, bX]
    have H0 := Lib.hid h0; have HR := Lib.hid hr; have HX := Lib.hid bX
    clear h0 hr bX
    have hq : w.heap.size ≠ w.heap.size + 1 := by omega
    cases ht : (x.2.s == core)
    · gi_wp2
      exact ⟨(KeepsOthers.refl _).from _, Below.refl _ _, ⟨⟨fun y hy => by
        rcases List.mem_append.1 hy with hy | hy
        · exact H0.out y hy
        · rw [List.mem_singleton.1 hy]; exact ht, h1⟩, h2⟩, hB1⟩
    · gi_wp2
      exact ⟨(KeepsOthers.setCell _ _ _).from _, ⟨⟨rfl, x, by simp, ht⟩, h2.set _⟩, (hB0.trans (hB1.mono hB0.size)).setCell (p := ⟨w.heap.size + 1, 0, none⟩) (by simp) _⟩
  case done =>
    rintro D ys W hD rfl ⟨⟨⟨h0, h1⟩, h2⟩, hB1⟩ hK
    have d1 := h2.cell
    have f1 := h2.frozen
    have hBw : Below w.heap.size w W := hB0.trans (hB1.mono hB0.size)
    have hall : ((pairsUp rows 9).all fun x => !(x.2.s == core)) = true := by
      rw [List.all_eq_true]; intro x hx; rw [h0 x hx]; rfl
    have H0 := Lib.hid h0; have HK := Lib.hid hK; have HA := Lib.hid hall
    clear h0 hK hall
    gi_wp2
    have k2 : (W.setCell ⟨w.heap.size + 1, 0, none⟩ (.bool true)).heap[D]? = some (.deferred (some [])) := (KeepsOthers.setCell W ⟨w.heap.size + 1, 0, none⟩ (.bool true)).same D _ HK.out rfl
    have k1 : (W.setCell ⟨w.heap.size + 1, 0, none⟩ (.bool true)).cell? ⟨w.heap.size + 1, 0, none⟩ = some (.bool true) := World.cell?_setCell_same' W ⟨w.heap.size + 1, 0, none⟩ (.bool true) (by rw [d1]; rfl)
    have k3 : Below w.heap.size w (W.setCell ⟨w.heap.size + 1, 0, none⟩ (.bool true)) := hBw.setCell (p := ⟨w.heap.size + 1, 0, none⟩) (by simp) _
    refine ⟨by simp, .inl ⟨_, _, rfl, run_takeDeferred k2, ?_⟩⟩
    have hc5 := cell_kept k1 (grownBy_putObj' _ D (.deferred none)) (fun r e => by cases e; exact ⟨_, k2, rfl⟩)
    rw [HA.out]
    refine ⟨.bool true, ?_, rfl, k3.trans (belowK_b (w := w) (Nat.le_refl _) _ D _ _ (by omega) k2 rfl rfl)⟩
    simp [results, Try.f15, go_sem, hc5]
  case stop =>
    rintro D c' p W hD hpre ⟨⟨⟨rfl, x, hx, ht⟩, h2⟩, hBw⟩ hK
    have d1 := h2.cell
    have hall : ((pairsUp rows 9).all fun x => !(x.2.s == core)) = false := by
      rw [List.all_eq_false]; exact ⟨x, hpre.subset hx, by rw [ht]; simp⟩
    have HK := Lib.hid hK; have HA := Lib.hid hall
    clear hK hall
    gi_wp2
    refine ⟨by simp, .inl ⟨_, _, rfl, run_takeDeferred HK.out, ?_⟩⟩
    have hc5 := cell_kept d1 (grownBy_putObj' _ D (.deferred none)) (fun r e => by cases e; exact ⟨_, HK.out, rfl⟩)
    rw [HA.out]
    refine ⟨.bool false, ?_, rfl, hBw.trans (belowK_b (w := w) (Nat.le_refl _) _ D _ _ (by omega) HK.out rfl rfl)⟩
    simp [results, Try.f15, go_sem, hc5]

theorem done_any {G : Nat → Prop} {w : World} {c n : Nat} {rows : Nat → List P4} {vs : Nat → Value} (h : CastAt G w c n rows vs) (core : Int) (r : Bool) (hr : ((pairsUp rows 9).all fun x => !(x.2.s == core)) = r) :
    Calls Try.prog 15 #[.pointer (some ⟨c, 0, none⟩), .int .i64 core] w fun e w' => e = .returned (.bool r) ∧ ∃ x, w' = ext w x := by
  subst hr
  exact (callsIn_wide.1 (done_in h core)).mono fun e w' ⟨he, hb⟩ => ⟨he, ext_of hb⟩
end Go.Proofs.Ytpolilljglfkoaa
