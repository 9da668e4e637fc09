/- What the document's Keep tells. -/
import Derived.Test.YtcjklghjnbhcdaaWRefB
import Derived.Test.YtcjklghjnbhcdaaWTlbD
import Derived.Test.YtcjklghjnbhcdaaRowFin
namespace Go.Proofs.Ytcjklghjnbhcdaa
open Go.RowKit

open Classical in
/-- What Keep tells of any row. -/
noncomputable def keepE (l : List S) (x : S) : Int := if Chk mostS S.may S.same l ∧ x.may = true then 0 else 2
open Classical in
noncomputable def keepL (l : List S) (x : S) : List S := if Chk mostS S.may S.same l ∧ x.may = true then fillL mostS S.same l x else []

theorem fill_hit {l : List S} {x : S} {j : Nat} {z : S} (hz : l[j]? = some z) (h : x.same z = true) (hb : ∀ (i : Nat) y, i < j → l[i]? = some y → x.same y = false) : fillL mostS S.same l x = l.set j x := by
  obtain ⟨hj, rfl⟩ := List.getElem?_eq_some_iff.1 hz
  have e : l.findIdx (S.same x) = j := by
    rw [List.findIdx_eq hj]
    exact ⟨h, fun i hi => hb i _ hi (List.getElem?_eq_getElem (by omega))⟩
  rw [fillL, e, if_pos hj]
theorem fill_miss {l : List S} {x : S} (hb : ∀ (i : Nat) y, l[i]? = some y → x.same y = false) : fillL mostS S.same l x = l.drop (l.length + 1 - 4) ++ [x] := by
  rw [fillL, if_neg]
  intro h
  have := List.findIdx_getElem (w := h)
  rw [hb _ _ (List.getElem?_eq_getElem h)] at this
  cases this

set_option maxHeartbeats 1000000 in
theorem rkeep_no (l : List S) (v : Value) (x : S) (w : World) (hv : Has S.enc w v l) (hmx : l.length ≤ 1000) (hn : ¬ (Chk mostS S.may S.same l ∧ x.may = true)) :
    Calls Try.prog 50 #[v, x.v] w fun e w' => e = .returned (.tuple #[.slice none 0 0, .int .i64 2]) ∧ ∃ x, w' = ext w x := by
  have HV := Lib.hid hv; clear hv
  have HM := Lib.hid hmx; clear hmx
  by_cases hc : Chk mostS S.may S.same l
  · have hm : x.may = false := by
      cases h : x.may
      · rfl
      · exact (hn ⟨hc, h⟩).elim
    have he := chk_yes hc
    clear hn hc
    go_enter Try.func50, Try.ntmps50
    go_wp2_with (first
      | (go_at_call 35; with_reducible refine (rcheck_any l v _ (HV.out.below up_below) HM.out 0 he).mono ?_; rintro e w' ⟨rfl, z, rfl⟩)
      | (go_at_call 65; with_reducible refine (rmay_any x _).mono ?_; rintro e w' ⟨rfl, z, rfl⟩))
    go_ret2
    exact ⟨rfl, up_to⟩
  · have he := chk_no hc
    clear hn hc
    go_enter Try.func50, Try.ntmps50
    go_wp2_with (go_at_call 35; with_reducible refine (rcheck_any l v _ (HV.out.below up_below) HM.out 2 he).mono ?_; rintro e w' ⟨rfl, z, rfl⟩)
    go_ret2
    exact ⟨rfl, up_to⟩

set_option maxHeartbeats 4000000 in
theorem rkeep_yes (l : List S) (v : Value) (x : S) (w : World) (hv : Has S.enc w v l) (hc : Chk mostS S.may S.same l) (hm : x.may = true) :
    Calls Try.prog 50 #[v, x.v] w fun e w' => ∃ v' y, e = .returned (.tuple #[v', .int .i64 0]) ∧ w' = ext w y ∧ Own S.enc (ext w y) w.heap.size v' (fillL mostS S.same l x) := by
  have he := chk_yes hc
  have hl4 : l.length ≤ 4 := by have := hc.1; simp only [mostS] at this; omega
  have hmx : l.length ≤ 1000 := by omega
  have HM := Lib.hid hmx; clear hmx hc
  have HL := Lib.hid hl4; clear hl4
  obtain ⟨i0, hi, hz0, hz1, hz2⟩ := info_parts infoS
  obtain ⟨W0, hW0⟩ : ∃ W0, W0 = w.alloc (.cells #[x.c0, x.c1, x.c2, x.c3] 54) := ⟨_, rfl⟩
  have hU0 : Up w.heap.size w W0 := by rw [hW0]; exact (Up.refl _).alloc _
  haveI j0 : LtW w.heap.size W0 := ⟨by rw [hW0]; simp⟩
  have d0 : W0.cell? ⟨w.heap.size, 0, none⟩ = some x.c0 := by rw [hW0]; simp [go_sem]
  have d1 : W0.cell? ⟨w.heap.size, 1, none⟩ = some x.c1 := by rw [hW0]; simp [go_sem]
  have d2 : W0.cell? ⟨w.heap.size, 2, none⟩ = some x.c2 := by rw [hW0]; simp [go_sem]
  have d3 : W0.cell? ⟨w.heap.size, 3, none⟩ = some x.c3 := by rw [hW0]; simp [go_sem]
  have HVW : Hid (Has S.enc W0 v l) := hv.below hU0.below
  have HU0 := Lib.hid hU0; clear hU0
  have HW0 := Lib.hid hW0; clear hW0
  have HV := Lib.hid hv
  rcases hv with ⟨rfl, rfl | ⟨ad, cap, rfl⟩⟩ | ⟨hl0, b, o, cap, rfl, hcap, hb, hR⟩
  · go_enter Try.func50, Try.ntmps50
    go_wp2_with (first
      | (go_at_call 35; with_reducible refine (rcheck_any [] _ _ (HV.out.below up_below) HM.out 0 he).mono ?_; rintro e w' ⟨rfl, z, rfl⟩)
      | (go_at_call 65; with_reducible refine (rmay_any x _).mono ?_; rintro e w' ⟨rfl, z2, rfl⟩)
      | (at_builtin; rw [← HW0.out]; refine append4_none rfl _ _ 37 rfl 54 i0 Try.underlying37 hi W0.heap.size (.slice none 0 0) ([] : List S) rfl (Or.inl ⟨rfl, rfl⟩ : Own S.enc _ _ _ _) rfl ?_))
    go_loopw [7] (fun c wr => c = .int .i64 0 ∧ ∃ y, wr = ext W0 y) (fun _ _ => 0)
    case atStart => exact ⟨rfl, up_to⟩
    case round =>
      obtain ⟨rfl, y, rfl⟩ := hrel
      go_wp2_with (at_builtin; refine append4 S.enc4 S.enc1 rfl _ _ 37 rfl 54 i0 _ 32 Try.underlying37 hi hz0 hz1 hz2 rfl W0 (((Up.refl W0).ext y).alloc _) _ [] [x] rfl (.inl ⟨rfl, rfl⟩) ⟨(ext W0 y).heap.size, 0, none⟩ 1 rfl (fun j u h => World.news_of_block (cs := #[x.c0, x.c1, x.c2, x.c3]) (heap_alloc_new (ext W0 y) _) j u h) (by simp [maxLen]) (by simp) ?_; intro v' y' ho; have HO := Lib.hid ho; clear ho)
      go_ret2
      have hfin := own_end (v := v') (HU0.out.trans ((Up.refl _).ext y')) (fun v => .returned (.tuple #[v, .int .i64 0])) (HO.out.mono HU0.out.le)
      rw [fill_miss (fun i y h => by simp at h)]
      exact hfin
  · go_enter Try.func50, Try.ntmps50
    go_wp2_with (first
      | (go_at_call 35; with_reducible refine (rcheck_any [] _ _ (HV.out.below up_below) HM.out 0 he).mono ?_; rintro e w' ⟨rfl, z, rfl⟩)
      | (go_at_call 65; with_reducible refine (rmay_any x _).mono ?_; rintro e w' ⟨rfl, z2, rfl⟩)
      | (at_builtin; rw [← HW0.out]; refine append4 S.enc4 S.enc1 rfl _ _ 37 rfl 54 i0 _ 32 Try.underlying37 hi hz0 hz1 hz2 rfl W0 (by first | exact ((Up.refl W0).ext _).ext _ | exact (Up.refl W0).ext _) _ [] [] rfl (.inl ⟨rfl, rfl⟩) ad cap rfl (fun j u h => by simp [flat] at h) (by simp [maxLen]) (by simp) ?_; intro v1 Y0 ho; have HO1 := Lib.hid ho; clear ho))
    rcases HO1.out.shape with ⟨rfl, _⟩ | ⟨g, o, cap, rfl, hs⟩
    · have HO2 := HO1; clear HO1
      go_loopw [7] (fun c wr => c = .int .i64 0 ∧ ∃ y, wr = ext W0 y) (fun _ _ => 0)
      case atStart => exact ⟨rfl, up_to⟩
      case round =>
        obtain ⟨rfl, y, rfl⟩ := hrel
        go_wp2_with (at_builtin; refine append4 S.enc4 S.enc1 rfl _ _ 37 rfl 54 i0 _ 32 Try.underlying37 hi hz0 hz1 hz2 rfl W0 (((Up.refl W0).ext y).alloc _) _ [] [x] rfl (.inl ⟨rfl, rfl⟩) ⟨(ext W0 y).heap.size, 0, none⟩ 1 rfl (fun j u h => World.news_of_block (cs := #[x.c0, x.c1, x.c2, x.c3]) (heap_alloc_new (ext W0 y) _) j u h) (by simp [maxLen]) (by simp) ?_; intro v' y' ho; have HO := Lib.hid ho; clear ho)
        go_ret2
        have hfin := own_end (v := v') (HU0.out.trans ((Up.refl _).ext y')) (fun v => .returned (.tuple #[v, .int .i64 0])) (HO.out.mono HU0.out.le)
        rw [fill_miss (fun i y h => by simp at h)]
        exact hfin
    · have HS := Lib.hid hs; clear hs HO1
      obtain ⟨l, hle⟩ : ∃ l : List S, l = [] := ⟨_, rfl⟩
      simp only [List.nil_append] at HS ⊢
      rw [← hle] at HS HL ⊢
      have HLE : Hid (fillL mostS S.same [] x = fillL mostS S.same l x) := by rw [hle]; rfl
      clear hle
      have hlt : g < (ext W0 Y0).heap.size := HS.out.lt
      have hl4z : (l.length : Int) ≤ 4 := by have := HL.out; omega
      have hU1 : Up W0.heap.size W0 (ext W0 Y0) := (Up.refl W0).ext Y0
      haveI : LtW g (ext W0 Y0) := ⟨hlt⟩
      have e0 : (ext W0 Y0).cell? ⟨w.heap.size, 0, none⟩ = some x.c0 := by simp [go_sem, d0]
      have e1 : (ext W0 Y0).cell? ⟨w.heap.size, 1, none⟩ = some x.c1 := by simp [go_sem, d1]
      have e2 : (ext W0 Y0).cell? ⟨w.heap.size, 2, none⟩ = some x.c2 := by simp [go_sem, d2]
      have e3 : (ext W0 Y0).cell? ⟨w.heap.size, 3, none⟩ = some x.c3 := by simp [go_sem, d3]
      haveI : LtW w.heap.size (ext W0 Y0) := inferInstance
      generalize ext W0 Y0 = W1 at HS hU1 e0 e1 e2 e3 hlt ⊢
      haveI : LtW g W1 := ⟨hlt⟩
      haveI : LtW w.heap.size W1 := below_lt hU1.below _
      have f0 := fun i => HS.out.frozen i
      have hgb : w.heap.size ≤ g := Nat.le_trans HU0.out.le HS.out.base
      have hcap := HS.out.len
      have HU1 := Lib.hid hU1; clear hU1
      go_loopw [7] (fun c wr => ∃ j : Nat, j ≤ l.length ∧ c = .int .i64 (j : Int) ∧ Hid (∀ (i : Nat) z, i < j → l[i]? = some z → x.same z = false) ∧ ∃ y, wr = ext W1 y) (fun c _ => (l.length - intOf c).toNat)
      case atStart => exact ⟨0, by omega, by simp, by unfold Hid; intro i x h; omega, up_to⟩
      case round =>
        obtain ⟨j, hj, rfl, hA, y, rfl⟩ := hrel
        by_cases hlt : j < l.length
        · obtain ⟨z, hz⟩ : ∃ z, l[j]? = some z := ⟨_, List.getElem?_eq_getElem hlt⟩
          have c0 : W1.cell? ⟨g, o + j * 4, none⟩ = some z.c0 := HS.out.row j z hz 0 _ rfl
          have c1 : W1.cell? ⟨g, o + j * 4 + 1, none⟩ = some z.c1 := HS.out.row j z hz 1 _ rfl
          have c2 : W1.cell? ⟨g, o + j * 4 + 2, none⟩ = some z.c2 := HS.out.row j z hz 2 _ rfl
          have c3 : W1.cell? ⟨g, o + j * 4 + 3, none⟩ = some z.c3 := HS.out.row j z hz 3 _ rfl
          have hj0 : (0 : Int) ≤ (j : Int) := by omega
          have hj1 : (j : Int) < (l.length : Int) := by omega
          have HZ := Lib.hid hz; clear hz
          cases hs : z.same x
          · clear f0
            go_wp2_with fail
            refine wp_region_ext_lit (by kernel_rfl) (by kernel_rfl) ?_
            repeat (go_big_quiet_step ((go_at_call 66; exact extq (rplace_any z x _ false hs))))
            refine wpQuiet_nil ?_
            rintro _ ⟨y2, rfl⟩
            go_wp2
            go_roundw
            case rel =>
              refine ⟨j + 1, by omega, by go_num, ?_, up_to⟩
              unfold Hid; intro i u hi hu
              by_cases e : i = j
              · subst e; have := HZ.out; rw [this] at hu; cases hu; rw [S.same_comm]; exact hs
              · exact hA.out i u (by omega) hu
            case measure => simp [intOf]; omega
          · have hf : fillL mostS S.same l x = l.set j x := fill_hit HZ.out (by rw [S.same_comm]; exact hs) hA.out
            have HF := Lib.hid hf; clear hf
            have HLT := Lib.hid hlt; clear hlt
            go_wp2_with fail
            refine wp_region_ext_lit (by kernel_rfl) (by kernel_rfl) ?_
            repeat (go_big_quiet_step ((go_at_call 66; exact extq (rplace_any z x _ true hs))))
            refine wpQuiet_nil ?_
            rintro _ ⟨y2, rfl⟩
            go_wp2
            go_ret2
            rw [HLE.out]
            rw [HF.out]
            refine own_end ?_ (fun v => .returned (.tuple #[v, .int .i64 0])) ?_
            · refine Up.ext _ ?_
              repeat (refine Up.setCell _ _ _ hgb ?_)
              exact HU0.out.trans HU1.out
            · have := (((HS.out.put4 S.enc4 j x HLT.out rfl).own).mono HU0.out.le).ext
              simp only [List.length_set] at this
              exact this _
        · obtain rfl : j = l.length := by omega
          have hf : fillL mostS S.same l x = l.drop (l.length + 1 - 4) ++ [x] := fill_miss fun i y h => hA.out i y (List.getElem?_eq_some_iff.1 h).1 h
          have HF := Lib.hid hf; clear hf
          have HOW : Hid (OwnS S.enc (ext W1 y) W0.heap.size g o cap l) := HS.out.below (ext_below W1 y)
          obtain ⟨Y, hY⟩ := (HU1.out.ext y).to
          rw [hY] at HOW ⊢
          clear f0 hA hj HS hY e0 e1 e2 e3
          have hd0 : W0.heap.size ≤ W0.heap.size := Nat.le_refl _
          by_cases h4 : l.length = 4
          · have hd := (HOW.out.drop (l.length + 1 - 4) (by omega)).own
            rw [List.length_drop, h4] at hd
            have HD := Lib.hid hd; clear hd
            have hf := HF.out
            rw [h4] at hf
            have HF2 := Lib.hid hf; clear hf HF
            have hc0 : l.length ≤ cap := hcap
            rw [h4] at hc0 ⊢
            have hc1 : ¬ cap = 1 := by omega
            have hc2 : (0 : Int) ≤ (cap : Int) := by omega
            have hcn : Hid (l.length ≤ cap) := hcap
            clear hcap
            have H4 := Lib.hid h4; clear h4
            set_option maxRecDepth 20000 in
            go_wp2_with (at_builtin; refine append4 S.enc4 S.enc1 rfl _ _ 37 rfl 54 i0 _ 32 Try.underlying37 hi hz0 hz1 hz2 rfl W0 (((Up.refl W0).ext Y).alloc _) _ (l.drop 1) [x] rfl (HD.out.below (Below.alloc (Below.refl _ _) (Nat.le_refl _) _)) ⟨(ext W0 Y).heap.size, 0, none⟩ 1 rfl (fun j u h => World.news_of_block (cs := #[x.c0, x.c1, x.c2, x.c3]) (heap_alloc_new (ext W0 Y) _) j u h) (by have := HL.out; simp [maxLen]; omega) (by have := HL.out; simp; omega) ?_; intro v' y' ho; have HO := Lib.hid ho; clear ho)
            go_ret2
            have hfin := own_end (v := v') (HU0.out.trans ((Up.refl _).ext y')) (fun v => .returned (.tuple #[v, .int .i64 0])) (HO.out.mono HU0.out.le)
            rw [HLE.out]
            rw [HF2.out]
            exact hfin
          · have hf := HF.out
            rw [show l.length + 1 - 4 = 0 from by have := HL.out; omega, List.drop_zero] at hf
            have HF2 := Lib.hid hf; clear hf HF
            have hO := HOW.out.own
            rcases (by have := HL.out; omega : l.length = 0 ∨ l.length = 1 ∨ l.length = 2 ∨ l.length = 3) with h8 | h8 | h8 | h8
            all_goals
              clear h4 hl4z hlt hcap
              rw [h8] at hO ⊢
              have HOO := Lib.hid hO; clear hO
              have H8 := Lib.hid h8; clear h8
              go_wp2_with (at_builtin; refine append4 S.enc4 S.enc1 rfl _ _ 37 rfl 54 i0 _ 32 Try.underlying37 hi hz0 hz1 hz2 rfl W0 (((Up.refl W0).ext Y).alloc _) _ l [x] rfl (HOO.out.below (Below.alloc (Below.refl _ _) (Nat.le_refl _) _)) ⟨(ext W0 Y).heap.size, 0, none⟩ 1 rfl (fun j u h => World.news_of_block (cs := #[x.c0, x.c1, x.c2, x.c3]) (heap_alloc_new (ext W0 Y) _) j u h) (by have := HL.out; simp [maxLen]; omega) (by have := HL.out; simp; omega) ?_; intro v' y' ho; have HO := Lib.hid ho; clear ho)
              go_ret2
              have hfin := own_end (v := v') (HU0.out.trans ((Up.refl _).ext y')) (fun v => .returned (.tuple #[v, .int .i64 0])) (HO.out.mono HU0.out.le)
              rw [HLE.out]
              rw [HF2.out]
              exact hfin
  · go_enter Try.func50, Try.ntmps50
    have HRW : Hid (RowAt S.enc W0 b o l) := hR.below hb HU0.out.below
    have hb0 : b < W0.heap.size := Nat.lt_of_lt_of_le hb HU0.out.below.size
    haveI : LtW b W0 := ⟨hb0⟩
    clear hR hb
    go_wp2_with (first
      | (go_at_call 35; with_reducible refine (rcheck_any l _ _ (HV.out.below up_below) HM.out 0 he).mono ?_; rintro e w' ⟨rfl, z, rfl⟩)
      | (go_at_call 65; with_reducible refine (rmay_any x _).mono ?_; rintro e w' ⟨rfl, z2, rfl⟩)
      | (at_builtin; rw [← HW0.out]; refine append4 S.enc4 S.enc1 rfl _ _ 37 rfl 54 i0 _ 32 Try.underlying37 hi hz0 hz1 hz2 rfl W0 (by first | exact ((Up.refl W0).ext _).ext _ | exact (Up.refl W0).ext _) _ [] l rfl (.inl ⟨rfl, rfl⟩) ⟨b, o, none⟩ cap rfl (fun j u h => by rw [Addr.add_lit]; exact (HRW.out.below hb0 up_below).flat S.enc4 j u h) (by have := HL.out; simp [maxLen]; omega) (by have := HL.out; simp; omega) ?_; intro v1 Y0 ho; have HO1 := Lib.hid ho; clear ho))
    rcases HO1.out.shape with ⟨_, h⟩ | ⟨g, o, cap, rfl, hs⟩
    · exact (hl0 h).elim
    · have HS := Lib.hid hs; clear hs HO1 hcap
      simp only [List.nil_append] at HS ⊢
      have hlt : g < (ext W0 Y0).heap.size := HS.out.lt
      have hl4z : (l.length : Int) ≤ 4 := by have := HL.out; omega
      have hU1 : Up W0.heap.size W0 (ext W0 Y0) := (Up.refl W0).ext Y0
      haveI : LtW g (ext W0 Y0) := ⟨hlt⟩
      have e0 : (ext W0 Y0).cell? ⟨w.heap.size, 0, none⟩ = some x.c0 := by simp [go_sem, d0]
      have e1 : (ext W0 Y0).cell? ⟨w.heap.size, 1, none⟩ = some x.c1 := by simp [go_sem, d1]
      have e2 : (ext W0 Y0).cell? ⟨w.heap.size, 2, none⟩ = some x.c2 := by simp [go_sem, d2]
      have e3 : (ext W0 Y0).cell? ⟨w.heap.size, 3, none⟩ = some x.c3 := by simp [go_sem, d3]
      haveI : LtW w.heap.size (ext W0 Y0) := inferInstance
      generalize ext W0 Y0 = W1 at HS hU1 e0 e1 e2 e3 hlt ⊢
      haveI : LtW g W1 := ⟨hlt⟩
      haveI : LtW w.heap.size W1 := below_lt hU1.below _
      have f0 := fun i => HS.out.frozen i
      have hgb : w.heap.size ≤ g := Nat.le_trans HU0.out.le HS.out.base
      have hcap := HS.out.len
      have HU1 := Lib.hid hU1; clear hU1
      go_loopw [7] (fun c wr => ∃ j : Nat, j ≤ l.length ∧ c = .int .i64 (j : Int) ∧ Hid (∀ (i : Nat) z, i < j → l[i]? = some z → x.same z = false) ∧ ∃ y, wr = ext W1 y) (fun c _ => (l.length - intOf c).toNat)
      case atStart => exact ⟨0, by omega, by simp, by unfold Hid; intro i x h; omega, up_to⟩
      case round =>
        obtain ⟨j, hj, rfl, hA, y, rfl⟩ := hrel
        by_cases hlt : j < l.length
        · obtain ⟨z, hz⟩ : ∃ z, l[j]? = some z := ⟨_, List.getElem?_eq_getElem hlt⟩
          have c0 : W1.cell? ⟨g, o + j * 4, none⟩ = some z.c0 := HS.out.row j z hz 0 _ rfl
          have c1 : W1.cell? ⟨g, o + j * 4 + 1, none⟩ = some z.c1 := HS.out.row j z hz 1 _ rfl
          have c2 : W1.cell? ⟨g, o + j * 4 + 2, none⟩ = some z.c2 := HS.out.row j z hz 2 _ rfl
          have c3 : W1.cell? ⟨g, o + j * 4 + 3, none⟩ = some z.c3 := HS.out.row j z hz 3 _ rfl
          have hj0 : (0 : Int) ≤ (j : Int) := by omega
          have hj1 : (j : Int) < (l.length : Int) := by omega
          have HZ := Lib.hid hz; clear hz
          cases hs : z.same x
          · clear f0
            go_wp2_with fail
            refine wp_region_ext_lit (by kernel_rfl) (by kernel_rfl) ?_
            repeat (go_big_quiet_step ((go_at_call 66; exact extq (rplace_any z x _ false hs))))
            refine wpQuiet_nil ?_
            rintro _ ⟨y2, rfl⟩
            go_wp2
            go_roundw
            case rel =>
              refine ⟨j + 1, by omega, by go_num, ?_, up_to⟩
              unfold Hid; intro i u hi hu
              by_cases e : i = j
              · subst e; have := HZ.out; rw [this] at hu; cases hu; rw [S.same_comm]; exact hs
              · exact hA.out i u (by omega) hu
            case measure => simp [intOf]; omega
          · have hf : fillL mostS S.same l x = l.set j x := fill_hit HZ.out (by rw [S.same_comm]; exact hs) hA.out
            have HF := Lib.hid hf; clear hf
            have HLT := Lib.hid hlt; clear hlt
            go_wp2_with fail
            refine wp_region_ext_lit (by kernel_rfl) (by kernel_rfl) ?_
            repeat (go_big_quiet_step ((go_at_call 66; exact extq (rplace_any z x _ true hs))))
            refine wpQuiet_nil ?_
            rintro _ ⟨y2, rfl⟩
            go_wp2
            go_ret2
            rw [HF.out]
            refine own_end ?_ (fun v => .returned (.tuple #[v, .int .i64 0])) ?_
            · refine Up.ext _ ?_
              repeat (refine Up.setCell _ _ _ hgb ?_)
              exact HU0.out.trans HU1.out
            · have := (((HS.out.put4 S.enc4 j x HLT.out rfl).own).mono HU0.out.le).ext
              simp only [List.length_set] at this
              exact this _
        · obtain rfl : j = l.length := by omega
          have hf : fillL mostS S.same l x = l.drop (l.length + 1 - 4) ++ [x] := fill_miss fun i y h => hA.out i y (List.getElem?_eq_some_iff.1 h).1 h
          have HF := Lib.hid hf; clear hf
          have HOW : Hid (OwnS S.enc (ext W1 y) W0.heap.size g o cap l) := HS.out.below (ext_below W1 y)
          obtain ⟨Y, hY⟩ := (HU1.out.ext y).to
          rw [hY] at HOW ⊢
          clear f0 hA hj HS hY e0 e1 e2 e3
          have hd0 : W0.heap.size ≤ W0.heap.size := Nat.le_refl _
          by_cases h4 : l.length = 4
          · have hd := (HOW.out.drop (l.length + 1 - 4) (by omega)).own
            rw [List.length_drop, h4] at hd
            have HD := Lib.hid hd; clear hd
            have hf := HF.out
            rw [h4] at hf
            have HF2 := Lib.hid hf; clear hf HF
            have hc0 : l.length ≤ cap := hcap
            rw [h4] at hc0 ⊢
            have hc1 : ¬ cap = 1 := by omega
            have hc2 : (0 : Int) ≤ (cap : Int) := by omega
            have hcn : Hid (l.length ≤ cap) := hcap
            clear hcap
            have H4 := Lib.hid h4; clear h4
            set_option maxRecDepth 20000 in
            go_wp2_with (at_builtin; refine append4 S.enc4 S.enc1 rfl _ _ 37 rfl 54 i0 _ 32 Try.underlying37 hi hz0 hz1 hz2 rfl W0 (((Up.refl W0).ext Y).alloc _) _ (l.drop 1) [x] rfl (HD.out.below (Below.alloc (Below.refl _ _) (Nat.le_refl _) _)) ⟨(ext W0 Y).heap.size, 0, none⟩ 1 rfl (fun j u h => World.news_of_block (cs := #[x.c0, x.c1, x.c2, x.c3]) (heap_alloc_new (ext W0 Y) _) j u h) (by have := HL.out; simp [maxLen]; omega) (by have := HL.out; simp; omega) ?_; intro v' y' ho; have HO := Lib.hid ho; clear ho)
            go_ret2
            have hfin := own_end (v := v') (HU0.out.trans ((Up.refl _).ext y')) (fun v => .returned (.tuple #[v, .int .i64 0])) (HO.out.mono HU0.out.le)
            rw [HF2.out]
            exact hfin
          · have hf := HF.out
            rw [show l.length + 1 - 4 = 0 from by have := HL.out; omega, List.drop_zero] at hf
            have HF2 := Lib.hid hf; clear hf HF
            have hO := HOW.out.own
            rcases (by have := HL.out; omega : l.length = 0 ∨ l.length = 1 ∨ l.length = 2 ∨ l.length = 3) with h8 | h8 | h8 | h8
            all_goals
              clear h4 hl4z hlt hcap
              rw [h8] at hO ⊢
              have HOO := Lib.hid hO; clear hO
              have H8 := Lib.hid h8; clear h8
              go_wp2_with (at_builtin; refine append4 S.enc4 S.enc1 rfl _ _ 37 rfl 54 i0 _ 32 Try.underlying37 hi hz0 hz1 hz2 rfl W0 (((Up.refl W0).ext Y).alloc _) _ l [x] rfl (HOO.out.below (Below.alloc (Below.refl _ _) (Nat.le_refl _) _)) ⟨(ext W0 Y).heap.size, 0, none⟩ 1 rfl (fun j u h => World.news_of_block (cs := #[x.c0, x.c1, x.c2, x.c3]) (heap_alloc_new (ext W0 Y) _) j u h) (by have := HL.out; simp [maxLen]; omega) (by have := HL.out; simp; omega) ?_; intro v' y' ho; have HO := Lib.hid ho; clear ho)
              go_ret2
              have hfin := own_end (v := v') (HU0.out.trans ((Up.refl _).ext y')) (fun v => .returned (.tuple #[v, .int .i64 0])) (HO.out.mono HU0.out.le)
              rw [HF2.out]
              exact hfin

/-- Both answers in one, of the document and of the program. -/
theorem rkeep_any (l : List S) (v : Value) (x : S) (w : World) (hv : Has S.enc w v l) (hmx : l.length ≤ 1000) :
    Calls Try.prog 50 #[v, x.v] w fun e w' => ∃ v' y, e = .returned (.tuple #[v', .int .i64 (keepE l x)]) ∧ w' = ext w y ∧ Has S.enc (ext w y) v' (keepL l x) := by
  by_cases h : Chk mostS S.may S.same l ∧ x.may = true
  · rw [keepE, if_pos h, keepL, if_pos h]; exact (rkeep_yes l v x w hv h.1 h.2).mono fun _ _ ⟨v', y, h1, h2, h3⟩ => ⟨v', y, h1, h2, h3.has⟩
  · rw [keepE, if_neg h, keepL, if_neg h]; exact (rkeep_no l v x w hv hmx h).mono fun _ _ ⟨h1, y, h2⟩ => ⟨_, y, h1, h2, .inl ⟨rfl, .inl rfl⟩⟩
end Go.Proofs.Ytcjklghjnbhcdaa
