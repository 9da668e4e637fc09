/- fill of a Step-row. -/
import Derived.Test.YtpolilljglfkoaaTlbDS
import Derived.Deep.RegionHeld3
import Derived.Deep.DrawnRows
import Derived.Laws.Small
namespace Go.Proofs.Ytpolilljglfkoaa
open Go.RowKit
attribute [local go_sem ↓] Go.wp_at_zero Go.wp_at_succ

set_option maxHeartbeats 1000000 in
theorem sfill_no (l : List S) (v : Value) (x : S) (w : World) (hv : Has S.enc w v l) (hn : ¬ (Chk mostS S.may S.same l ∧ x.may = true)) :
    Calls Try.prog 58 #[stepsV, v, x.v] w fun e w' => e = .returned (.tuple #[.slice none 0 0, .int .i64 2]) ∧ ∃ x, w' = ext w x := by
  by_cases hc : Chk mostS S.may S.same l
  · have hm : x.may = false := by
      cases h : x.may
      · rfl
      · exact (hn ⟨hc, h⟩).elim
    have he := chk_yes hc
    clear hn hc
    go_enter Try.func58, Try.ntmps58
    go_wp2_with (first
      | (go_at_call 49; refine (scheck_any l v _ (hv.below up_below) 0 he).mono ?_; rintro e w' ⟨rfl, z, rfl⟩)
      | (go_at_call 66; refine (smay_any x _).mono ?_; rintro e w' ⟨rfl, z, rfl⟩))
    go_ret2
    exact ⟨rfl, up_to⟩
  · have he := chk_no hc
    clear hn hc
    go_enter Try.func58, Try.ntmps58
    go_wp2_with (go_at_call 49; refine (scheck_any l v _ (hv.below up_below) 2 he).mono ?_; rintro e w' ⟨rfl, z, rfl⟩)
    go_ret2
    exact ⟨rfl, up_to⟩

set_option maxHeartbeats 2000000 in
theorem sfill_yes (l : List S) (v : Value) (x : S) (w : World) (hv : Has S.enc w v l) (hc : Chk mostS S.may S.same l) (hm : x.may = true) (L : List S) (hL : fillL mostS S.same l x = L) :
    Calls Try.prog 58 #[stepsV, v, x.v] w fun e w' => ∃ v' y, e = .returned (.tuple #[v', .int .i64 0]) ∧ w' = ext w y ∧ Own S.enc (ext w y) w.heap.size v' L := by
  have HF := Lib.hid hL; clear hL
  have he := chk_yes hc
  have hlen := hc.1
  have hl1 : l.length ≤ 1000 := by simp only [mostS] at hlen; omega
  have HL := Lib.hid hl1; clear hl1
  have HN := Lib.hid hlen; clear hlen
  clear hc
  go_enter Try.func58, Try.ntmps58
  go_wp2_with (first
      | (go_at_call 49; refine (scheck_any l v _ (hv.below up_below) 0 he).mono ?_; rintro e w' ⟨rfl, z, rfl⟩)
      | (go_at_call 66; refine (smay_any x _).mono ?_; rintro e w' ⟨rfl, z, rfl⟩)
      | (go_at_call 74; refine (sClone_any l v _ (hv.below up_below) HL.out).mono ?_; rintro e w' ⟨v', y, rfl, hw', ho⟩; rw [← hw'] at ho; replace ho := Own.mono (base' := w.heap.size + 2) ho (le_ext _ _ _ (by simp)); have HW := Lib.hid hw'; clear hw'))
  obtain ⟨W0, hW0⟩ : ∃ W0, W0 = (w.alloc (.cells stepsC 102)).alloc (.cells #[x.c0, x.c1, x.c2, x.c3] 61) := ⟨_, rfl⟩
  have hU : Up W0.heap.size W0 w' := by rw [hW0, HW.out]; exact ((Up.refl _).ext _).ext _
  have hU0 : Up w.heap.size w W0 := by rw [hW0]; exact ((Up.refl _).alloc _).alloc _
  have hs0 : W0.heap.size = w.heap.size + 2 := by rw [hW0]; simp
  haveI j0 : LtW w.heap.size W0 := ⟨by omega⟩
  haveI j1 : LtW (w.heap.size + 1) W0 := ⟨by omega⟩
  have a0 : W0.cell? ⟨w.heap.size, 0, none⟩ = some (.int .i64 4) := by rw [hW0]; simp [go_sem, stepsC]
  have d0 : W0.cell? ⟨w.heap.size + 1, 0, none⟩ = some x.c0 := by rw [hW0]; simp [go_sem]
  have d1 : W0.cell? ⟨w.heap.size + 1, 1, none⟩ = some x.c1 := by rw [hW0]; simp [go_sem]
  have d2 : W0.cell? ⟨w.heap.size + 1, 2, none⟩ = some x.c2 := by rw [hW0]; simp [go_sem]
  have d3 : W0.cell? ⟨w.heap.size + 1, 3, none⟩ = some x.c3 := by rw [hW0]; simp [go_sem]
  clear hW0
  have hB : Below w.heap.size w w' := by rw [HW.out]; exact up_below
  haveI i0 : LtW w.heap.size w' := ⟨by rw [HW.out]; exact LtW.lt⟩
  haveI i1 : LtW (w.heap.size + 1) w' := ⟨by rw [HW.out]; exact LtW.lt⟩
  have b0 : w'.cell? ⟨w.heap.size, 0, none⟩ = some (.int .i64 4) := by rw [HW.out]; simp [go_sem]
  have b2 : w'.cell? ⟨w.heap.size, 2, none⟩ = some (.func (.func 67) #[] #[]) := by rw [HW.out]; simp [go_sem]
  have x0 : w'.cell? ⟨w.heap.size + 1, 0, none⟩ = some x.c0 := by rw [HW.out]; simp [go_sem]
  have x1 : w'.cell? ⟨w.heap.size + 1, 1, none⟩ = some x.c1 := by rw [HW.out]; simp [go_sem]
  have x2 : w'.cell? ⟨w.heap.size + 1, 2, none⟩ = some x.c2 := by rw [HW.out]; simp [go_sem]
  have x3 : w'.cell? ⟨w.heap.size + 1, 3, none⟩ = some x.c3 := by rw [HW.out]; simp [go_sem]
  have hll : l.length ≤ 9223372036854775807 := by have := HL.out; omega
  have HLL := Lib.hid hll; clear hll
  by_cases hk : l.findIdx x.same < l.length
  · rcases ho.shape with ⟨rfl, rfl⟩ | ⟨g, o, cap, rfl, hs⟩
    · simp at hk
    · have hr : idx x.same l = (l.findIdx x.same : Int) := by rw [idx, if_pos hk]
      have hf : L = l.set (l.findIdx x.same) x := by rw [← HF.out, fillL, if_pos hk]
      clear HF
      generalize l.findIdx x.same = k at hk hr hf
      have HF := Lib.hid hf; clear hf
      obtain ⟨z, hz⟩ : ∃ z, l[k]? = some z := ⟨_, List.getElem?_eq_getElem hk⟩
      haveI : LtW g w' := ⟨hs.lt⟩
      have c0 : w'.cell? ⟨g, o + k * 4, none⟩ = some z.c0 := hs.row k z hz 0 _ rfl
      have c1 : w'.cell? ⟨g, o + k * 4 + 1, none⟩ = some z.c1 := hs.row k z hz 1 _ rfl
      have c2 : w'.cell? ⟨g, o + k * 4 + 2, none⟩ = some z.c2 := hs.row k z hz 2 _ rfl
      have c3 : w'.cell? ⟨g, o + k * 4 + 3, none⟩ = some z.c3 := hs.row k z hz 3 _ rfl
      have f0 := fun i => hs.frozen i
      have hkl : (k : Int) < (l.length : Int) := by omega
      have hk0 : (0 : Int) ≤ (k : Int) := by omega
      have HO := Lib.hid ho; clear ho
      have HR := Lib.hid hr; clear hr
      have HK := Lib.hid hk; clear hk
      have HS := Lib.hid hs; clear hs
      go_wp2_with (go_at_call 85; refine (sIndexFunc_any x.same 86 _ senters_fill l _ _ HO.out.has HLL.out (sclos_fill _ _ b2 x ⟨x0, x1, x2, x3⟩) _ HR.out).mono ?_; rintro e w'' ⟨rfl, z, rfl⟩)
      have hg : w.heap.size ≤ g := by have := HS.out.base; omega
      go_ret2
      refine own_end ?_ (fun v => .returned (.tuple #[v, .int .i64 0])) ?_
      · refine Up.ext _ ?_
        repeat (refine Up.setCell _ _ _ hg ?_)
        exact ⟨hB, hB.size⟩
      · rw [HF.out]
        have := (((HS.out.put4 S.enc4 k x HK.out rfl).own).mono (by omega : w.heap.size ≤ w.heap.size + 2)).ext
        simp only [List.length_set] at this
        exact this _
  · have hr : idx x.same l = -1 := by rw [idx, if_neg hk]
    have hf : L = l.drop (l.length + 1 - 4) ++ [x] := by rw [← HF.out, fillL, if_neg hk]
    clear HF hk
    have HF := Lib.hid hf; clear hf
    have HR := Lib.hid hr; clear hr
    obtain ⟨i0, hi, hz0, hz1, hz2⟩ := info_parts infoS
    rcases ho.shape with ⟨rfl, rfl⟩ | ⟨g, o, cap, rfl, hs⟩
    · have hf : L = [] ++ [x] := by rw [HF.out]; rfl
      clear HF
      have HF2 := Lib.hid hf; clear hf
      have HO := Lib.hid ho; clear ho
      go_wp2_with (go_at_call 85; refine (sIndexFunc_any x.same 86 _ senters_fill [] _ _ (.inl ⟨rfl, .inl rfl⟩) HLL.out (sclos_fill _ _ b2 x ⟨x0, x1, x2, x3⟩) _ HR.out).mono ?_; rintro e w'' ⟨rfl, z, rfl⟩)
      have hU2 : Up W0.heap.size W0 (ext w' z) := hU.ext z
      have e0 : (ext w' z).cell? ⟨w.heap.size, 0, none⟩ = some (.int .i64 4) := by simp [go_sem, b0]
      have y0 : (ext w' z).cell? ⟨w.heap.size + 1, 0, none⟩ = some x.c0 := by simp [go_sem, x0]
      have y1 : (ext w' z).cell? ⟨w.heap.size + 1, 1, none⟩ = some x.c1 := by simp [go_sem, x1]
      have y2 : (ext w' z).cell? ⟨w.heap.size + 1, 2, none⟩ = some x.c2 := by simp [go_sem, x2]
      have y3 : (ext w' z).cell? ⟨w.heap.size + 1, 3, none⟩ = some x.c3 := by simp [go_sem, x3]
      clear b0 b2 x0 x1 x2 x3 HW HR
      generalize ext w' z = w2 at hU2 e0 y0 y1 y2 y3 ⊢
      have wm7 : IntKind.i64.wrap (-7) = -7 := rfl
      have wm6 : IntKind.i64.wrap (-6) = -6 := rfl
      have wm5 : IntKind.i64.wrap (-5) = -5 := rfl
      have wm4 : IntKind.i64.wrap (-4) = -4 := rfl
      have wm3 : IntKind.i64.wrap (-3) = -3 := rfl
      have wm2 : IntKind.i64.wrap (-2) = -2 := rfl
      have wm1 : IntKind.i64.wrap (-1) = -1 := rfl
      have wp0 : IntKind.i64.wrap 0 = 0 := rfl
      have wp1 : IntKind.i64.wrap 1 = 1 := rfl
      have wp2 : IntKind.i64.wrap 2 = 2 := rfl
      have wp3 : IntKind.i64.wrap 3 = 3 := rfl
      have wp4 : IntKind.i64.wrap 4 = 4 := rfl
      have wp5 : IntKind.i64.wrap 5 = 5 := rfl
      have wp6 : IntKind.i64.wrap 6 = 6 := rfl
      have wp7 : IntKind.i64.wrap 7 = 7 := rfl
      have wp8 : IntKind.i64.wrap 8 = 8 := rfl
      have wp9 : IntKind.i64.wrap 9 = 9 := rfl
      set_option maxRecDepth 20000 in
      go_region_held3 (fun W => W.cell? ⟨w.heap.size, 0, none⟩ = some (.int .i64 4) ∧ W.cell? ⟨w.heap.size + 1, 0, none⟩ = some x.c0 ∧ W.cell? ⟨w.heap.size + 1, 1, none⟩ = some x.c1 ∧ W.cell? ⟨w.heap.size + 1, 2, none⟩ = some x.c2 ∧ W.cell? ⟨w.heap.size + 1, 3, none⟩ = some x.c3)
          (first | go_keep | (refine ⟨?_, ?_, ?_, ?_, ?_⟩ <;> simp [go_sem, a0, d0, d1, d2, d3]))
          ((refine step_append4 S.enc4 S.enc1 (by rfl) _ _ 58 (by rfl) 61 i0 _ 32 Try.underlying58 hi hz0 hz1 hz2 (by rfl) W0 (hU2.alloc _).drew _ _ [x] (by rfl) (.inl ⟨rfl, rfl⟩) ⟨w2.heap.size, 0, none⟩ 1 (by rfl) (fun j u h => World.news_of_block (cs := #[x.c0, x.c1, x.c2, x.c3]) (heap_alloc_new w2 _) j u h) (by simp [maxLen]) (by simp) ?_; intro v' y ho'; have HO' := Lib.hid ho'; clear ho'))
      all_goals
        go_wp2
        go_ret2
        have hfin := own_end (v := v') (hU0.trans ((Up.refl _).ext y)) (fun v => .returned (.tuple #[v, .int .i64 0])) (HO'.out.mono hU0.le)
        rw [← HF2.out] at hfin
        exact hfin
    · haveI : LtW g w' := ⟨hs.lt⟩
      have HO := Lib.hid ho; clear ho
      have HS := Lib.hid hs; clear hs
      go_wp2_with (go_at_call 85; refine (sIndexFunc_any x.same 86 _ senters_fill l _ _ HO.out.has HLL.out (sclos_fill _ _ b2 x ⟨x0, x1, x2, x3⟩) _ HR.out).mono ?_; rintro e w'' ⟨rfl, z, rfl⟩)
      have hU2 : Up W0.heap.size W0 (ext w' z) := hU.ext z
      have hs2 : OwnS S.enc (ext w' z) W0.heap.size g o cap l := ⟨by have := HS.out.base; omega, (HS.out.below (ext_below w' z)).len, (HS.out.below (ext_below w' z)).blk, (HS.out.below (ext_below w' z)).row⟩
      have e0 : (ext w' z).cell? ⟨w.heap.size, 0, none⟩ = some (.int .i64 4) := by simp [go_sem, b0]
      have y0 : (ext w' z).cell? ⟨w.heap.size + 1, 0, none⟩ = some x.c0 := by simp [go_sem, x0]
      have y1 : (ext w' z).cell? ⟨w.heap.size + 1, 1, none⟩ = some x.c1 := by simp [go_sem, x1]
      have y2 : (ext w' z).cell? ⟨w.heap.size + 1, 2, none⟩ = some x.c2 := by simp [go_sem, x2]
      have y3 : (ext w' z).cell? ⟨w.heap.size + 1, 3, none⟩ = some x.c3 := by simp [go_sem, x3]
      clear b0 b2 x0 x1 x2 x3 HO HW HR
      generalize ext w' z = w2 at hU2 hs2 e0 y0 y1 y2 y3 ⊢
      have hcap := hs2.len
      have HS2 := Lib.hid hs2; clear hs2 HS
      have hn1 : l.length ≤ 4 := HN.out
      rcases (by omega : l.length = 0 ∨ l.length = 1 ∨ l.length = 2 ∨ l.length = 3 ∨ l.length = 4) with h8 | h8 | h8 | h8 | h8
      all_goals
        have hd := (HS2.out.drop (l.length + 1 - 4) (by omega)).own
        rw [List.length_drop, h8] at hd
        have HD := Lib.hid hd; clear hd
        have hf := HF.out
        rw [h8] at hf
        have HF2 := Lib.hid hf; clear hf HF
        have hc0 : l.length ≤ cap := hcap
        rw [h8] at hc0 ⊢
        have hc1 : ¬ cap = 1 ∨ l.length ≤ 1 := by omega
        rw [h8] at hc1
        (try simp at hc1)
        have hc2 : (0 : Int) ≤ (cap : Int) := by omega
        have hbig : (l.length + 1) * 32 ≤ 140737488355328 := by omega
        have HB := Lib.hid hbig; clear hbig
        have hcn : Hid (l.length ≤ cap) := hcap
        clear hcap hn1
        have wm7 : IntKind.i64.wrap (-7) = -7 := rfl
        have wm6 : IntKind.i64.wrap (-6) = -6 := rfl
        have wm5 : IntKind.i64.wrap (-5) = -5 := rfl
        have wm4 : IntKind.i64.wrap (-4) = -4 := rfl
        have wm3 : IntKind.i64.wrap (-3) = -3 := rfl
        have wm2 : IntKind.i64.wrap (-2) = -2 := rfl
        have wm1 : IntKind.i64.wrap (-1) = -1 := rfl
        have wp0 : IntKind.i64.wrap 0 = 0 := rfl
        have wp1 : IntKind.i64.wrap 1 = 1 := rfl
        have wp2 : IntKind.i64.wrap 2 = 2 := rfl
        have wp3 : IntKind.i64.wrap 3 = 3 := rfl
        have wp4 : IntKind.i64.wrap 4 = 4 := rfl
        have wp5 : IntKind.i64.wrap 5 = 5 := rfl
        have wp6 : IntKind.i64.wrap 6 = 6 := rfl
        have wp7 : IntKind.i64.wrap 7 = 7 := rfl
        have wp8 : IntKind.i64.wrap 8 = 8 := rfl
        have wp9 : IntKind.i64.wrap 9 = 9 := rfl
        set_option maxRecDepth 20000 in
        go_region_held3 (fun W => W.cell? ⟨w.heap.size, 0, none⟩ = some (.int .i64 4) ∧ W.cell? ⟨w.heap.size + 1, 0, none⟩ = some x.c0 ∧ W.cell? ⟨w.heap.size + 1, 1, none⟩ = some x.c1 ∧ W.cell? ⟨w.heap.size + 1, 2, none⟩ = some x.c2 ∧ W.cell? ⟨w.heap.size + 1, 3, none⟩ = some x.c3)
          (first | go_keep | (refine ⟨?_, ?_, ?_, ?_, ?_⟩ <;> simp [go_sem, a0, d0, d1, d2, d3]))
          ((refine step_append4 S.enc4 S.enc1 (by rfl) _ _ 58 (by rfl) 61 i0 _ 32 Try.underlying58 hi hz0 hz1 hz2 (by rfl) W0 (hU2.alloc _).drew _ _ [x] (by rfl) (HD.out.below (Below.drew (Below.alloc (Below.refl _ _) (Nat.le_refl _) _))) ⟨w2.heap.size, 0, none⟩ 1 (by rfl) (fun j u h => World.news_of_block (cs := #[x.c0, x.c1, x.c2, x.c3]) (heap_alloc_new w2 _) j u h) (by have := HB.out; simp [maxLen]; omega) (by have := HB.out; simp; omega) ?_; intro v' y ho'; have HO' := Lib.hid ho'; clear ho'))
        all_goals
          go_wp2
          go_ret2
          have hfin := own_end (v := v') (hU0.trans ((Up.refl _).ext y)) (fun v => .returned (.tuple #[v, .int .i64 0])) (HO'.out.mono hU0.le)
          rw [← HF2.out] at hfin
          exact hfin
end Go.Proofs.Ytpolilljglfkoaa
