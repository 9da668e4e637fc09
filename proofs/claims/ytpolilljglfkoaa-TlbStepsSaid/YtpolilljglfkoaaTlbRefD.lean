/- What the document's DropSteps tells. -/
import Derived.Test.YtpolilljglfkoaaTlbRefB
namespace Go.Proofs.Ytpolilljglfkoaa
open Go.RowKit

open Classical in
/-- A row behind an invalidation: of one that may not be, none. -/
noncomputable def dropR (k a q : Int) (l : List S) : List S := if Chk mostS S.may S.same l then l.filter fun x => !S.hits k a q x else []
theorem dropR_yes {k a q : Int} {l : List S} (h : Chk mostS S.may S.same l) : dropR k a q l = l.filter fun x => !S.hits k a q x := by rw [dropR, if_pos h]
theorem dropR_no {k a q : Int} {l : List S} (h : ¬ Chk mostS S.may S.same l) : dropR k a q l = [] := by rw [dropR, if_neg h]

theorem filter_succ {α : Type} (p : α → Bool) (l : List α) (j : Nat) (x : α) (hx : l[j]? = some x) : (l.take (j + 1)).filter p = (l.take j).filter p ++ if p x then [x] else [] := by
  rw [List.take_add_one, hx]
  simp [List.filter_cons]

theorem own_ext' {α : Type} {enc : α → List Value} {w x y : World} {base : Nat} {v : Value} {l : List α} (h : Own enc (ext w x) base v l) : Own enc (ext w (exty w x y)) base v l := by
  rw [← ext_ext']; exact h.ext y

set_option maxHeartbeats 2000000 in
theorem rdrop_no (l : List S) (v : Value) (k a q : Int) (w : World) (hv : Has S.enc w v l) (hmx : l.length ≤ 1000) (hn : ¬ Chk mostS S.may S.same l) :
    Calls Try.prog 39 #[v, tlbi k a q] w fun e w' => e = .returned (.slice none 0 0) ∧ ∃ x, w' = ext w x := by
  have HV := Lib.hid hv
  have he := chk_no hn
  have hl0 : l ≠ [] := fun h => by subst h; exact hn ⟨by simp, fun i x h => by simp at h⟩
  clear hn
  rcases hv with ⟨h, _⟩ | ⟨_, b, o, cap, rfl, hcap, hb, hR⟩
  · exact (hl0 h).elim
  · have hpos : (0 : Int) < (l.length : Int) := by have := List.length_pos_iff.2 hl0; omega
    have HM := Lib.hid hmx; clear hmx
    clear hR hb hl0
    go_enter Try.func39, Try.ntmps39
    go_wp2_with fail
    go_loopw [5, 6] (fun s k wr => s = .slice none 0 0 ∧ k = .int .i64 0 ∧ ∃ y, wr = ext w y) (fun _ _ _ => 0)
    case atStart => exact ⟨rfl, rfl, up_to⟩
    case round =>
      obtain ⟨rfl, rfl, y, rfl⟩ := hrel
      go_wp2_with (go_at_call 37; with_reducible refine (rcheck_any l _ _ (HV.out.below up_below) HM.out 2 he).mono ?_; rintro e w' ⟨rfl, z, rfl⟩)
      go_ret
      exact ⟨rfl, up_to⟩

set_option maxHeartbeats 4000000 in
theorem rdrop_yes (l : List S) (v : Value) (k a q : Int) (w : World) (hv : Has S.enc w v l) (hc : Chk mostS S.may S.same l) :
    Calls Try.prog 39 #[v, tlbi k a q] w fun e w' => ∃ v' y, e = .returned v' ∧ w' = ext w y ∧ Own S.enc (ext w y) w.heap.size v' (l.filter fun x => !S.hits k a q x) := by
  have he := chk_yes hc
  have hl4n : l.length ≤ 4 := by have := hc.1; simp only [mostS] at this; omega
  have hmx : l.length ≤ 1000 := by omega
  have HM := Lib.hid hmx; clear hmx hc
  have HV := Lib.hid hv
  rcases hv with ⟨rfl, hv⟩ | ⟨hl0, b, o, cap, rfl, hcap, hb, hR⟩
  · rcases hv with rfl | ⟨ad, cap, rfl⟩
    all_goals
      go_enter Try.func39, Try.ntmps39
      go_wp2_with fail
      go_loopw [5, 6] (fun s k wr => s = .slice none 0 0 ∧ k = .int .i64 0 ∧ ∃ y, wr = ext w y) (fun _ _ _ => 0)
      case atStart => exact ⟨rfl, rfl, up_to⟩
      case round =>
        obtain ⟨rfl, rfl, y, rfl⟩ := hrel
        go_wp2_with fail
        go_ret
        exact own_fin (fun v => .returned v) (.inl ⟨rfl, rfl⟩)
  · have HRA := Lib.hid hR; clear hR
    have hl4 : (l.length : Int) ≤ 4 := by omega
    haveI : LtW b w := ⟨hb⟩
    obtain ⟨i0, hi, hz0, hz1, hz2⟩ := info_parts infoS
    obtain ⟨W0, hW0⟩ : ∃ W0, W0 = w.alloc (.cells #[.int .i8 k, .int .i64 a, .int .u64 q] 35) := ⟨_, rfl⟩
    have hU0 : Up w.heap.size w W0 := by rw [hW0]; exact (Up.refl _).alloc _
    haveI j0 : LtW w.heap.size W0 := ⟨by rw [hW0]; simp⟩
    haveI jb : LtW b W0 := below_lt hU0.below b
    have t0 : W0.cell? ⟨w.heap.size, 0, none⟩ = some (.int .i8 k) := by rw [hW0]; simp [go_sem]
    have t1 : W0.cell? ⟨w.heap.size, 1, none⟩ = some (.int .i64 a) := by rw [hW0]; simp [go_sem]
    have t2 : W0.cell? ⟨w.heap.size, 2, none⟩ = some (.int .u64 q) := by rw [hW0]; simp [go_sem]
    have HVW : Hid (Has S.enc W0 (.slice (some ⟨b, o, none⟩) l.length cap) l) := HV.out.below hU0.below
    have HU0 := Lib.hid hU0; clear hU0
    have HW0 := Lib.hid hW0; clear hW0
    clear HV
    go_enter Try.func39, Try.ntmps39
    go_wp2_with fail
    go_loopw [5, 6] (fun s c wr => ∃ j : Nat, j ≤ l.length ∧ c = .int .i64 (j : Int) ∧ ∃ y, wr = ext W0 y ∧ Hid (Own S.enc (ext W0 y) W0.heap.size s ((l.take j).filter fun x => !S.hits k a q x))) (fun _ c _ => (l.length - intOf c).toNat)
    case atStart =>
      obtain ⟨y, hy⟩ := (Up.refl W0).to
      exact ⟨0, by omega, by simp, y, by rw [← hy, HW0.out], .inl ⟨rfl, rfl⟩⟩
    case round =>
      obtain ⟨j, hj, rfl, y, rfl, HO⟩ := hrel
      by_cases hlt : j < l.length
      · obtain ⟨x, hx⟩ : ∃ x, l[j]? = some x := ⟨_, List.getElem?_eq_getElem hlt⟩
        have hB0 := HU0.out.below
        have c0 : W0.cell? ⟨b, o + j * 4, none⟩ = some x.c0 := below_cell hB0 b _ (HRA.out j x hx 0 _ rfl)
        have c1 : W0.cell? ⟨b, o + j * 4 + 1, none⟩ = some x.c1 := below_cell hB0 b _ (HRA.out j x hx 1 _ rfl)
        have c2 : W0.cell? ⟨b, o + j * 4 + 2, none⟩ = some x.c2 := below_cell hB0 b _ (HRA.out j x hx 2 _ rfl)
        have c3 : W0.cell? ⟨b, o + j * 4 + 3, none⟩ = some x.c3 := below_cell hB0 b _ (HRA.out j x hx 3 _ rfl)
        clear hB0
        have hsu := filter_succ (fun x => !S.hits k a q x) l j x hx
        obtain ⟨L, hL⟩ : ∃ L, ((l.take j).filter fun x => !S.hits k a q x) = L := ⟨_, rfl⟩
        rw [hL] at hsu HO
        have hLl : L.length ≤ 4 := by rw [← hL]; exact Nat.le_trans (List.length_filter_le _ _) (by rw [List.length_take]; omega)
        have HLl := Lib.hid hLl; clear hLl hL
        have hj0 : (0 : Int) ≤ (j : Int) := by omega
        have hj1 : (j : Int) < (l.length : Int) := by omega
        cases hh : S.hits k a q x
        · rw [hh] at hsu
          have HSU := Lib.hid hsu; clear hsu
          go_wp2_with (go_at_call 37; with_reducible refine (rcheck_any l _ _ (HVW.out.below up_below) HM.out 0 he).mono ?_; rintro e w' ⟨rfl, z, rfl⟩)
          refine wp_region_ext_lit (by kernel_rfl) (by kernel_rfl) ?_
          repeat (go_big_quiet_step ((go_at_call 63; exact extq (rhits_any k a q x _ false hh))))
          refine wpQuiet_nil ?_
          rintro _ ⟨y2, rfl⟩
          have HO2 : Hid (Own S.enc (ext W0 (exty W0 (exty W0 y z) y2)) W0.heap.size u5 L) := own_ext' (own_ext' HO.out)
          clear HO
          simp only [ext_ext']
          generalize exty W0 (exty W0 y z) y2 = Y at HO2 ⊢
          go_wp2_with (at_builtin; refine append4 S.enc4 S.enc1 rfl _ _ 58 rfl 61 i0 _ 32 Try.underlying58 hi hz0 hz1 hz2 rfl W0 (((Up.refl W0).ext Y).alloc _) _ L [x] rfl (HO2.out.below (Below.alloc (Below.refl _ _) (Nat.le_refl _) _)) ⟨(ext W0 Y).heap.size, 0, none⟩ 1 rfl (fun j u h => World.news_of_block (cs := #[x.c0, x.c1, x.c2, x.c3]) (heap_alloc_new (ext W0 Y) _) j u h) (by have := HLl.out; simp [maxLen]; omega) (by have := HLl.out; simp; omega) ?_; intro v' y' ho; have HO := Lib.hid ho; clear ho)
          go_roundw
          case rel => exact ⟨j + 1, by omega, by go_num, y', rfl, by rw [HSU.out]; exact HO⟩
          case measure => simp [intOf]; omega
        · rw [hh] at hsu
          have HSU := Lib.hid hsu; clear hsu
          go_wp2_with (go_at_call 37; with_reducible refine (rcheck_any l _ _ (HVW.out.below up_below) HM.out 0 he).mono ?_; rintro e w' ⟨rfl, z, rfl⟩)
          refine wp_region_ext_lit (by kernel_rfl) (by kernel_rfl) ?_
          repeat (go_big_quiet_step ((go_at_call 63; exact extq (rhits_any k a q x _ true hh))))
          refine wpQuiet_nil ?_
          rintro _ ⟨y2, rfl⟩
          go_wp2
          go_roundw
          case rel => exact ⟨j + 1, by omega, by go_num, _, rfl, by rw [HSU.out]; simp only [Bool.not_true, Bool.false_eq_true, if_false, List.append_nil]; exact own_ext' (own_ext' HO.out)⟩
          case measure => simp [intOf]; omega
      · obtain rfl : j = l.length := by omega
        rw [List.take_length] at HO
        go_wp2_with fail
        go_ret
        obtain ⟨y', hy'⟩ := ext_of ((HU0.out.ext y).below)
        exact ⟨u5, y', rfl, hy', by rw [← hy']; exact HO.out.mono HU0.out.le⟩

/-- Both answers in one, of the document and of the program. -/
theorem rdrop_any (l : List S) (v : Value) (k a q : Int) (w : World) (hv : Has S.enc w v l) (hmx : l.length ≤ 1000) :
    Calls Try.prog 39 #[v, tlbi k a q] w fun e w' => ∃ v' y, e = .returned v' ∧ w' = ext w y ∧ Has S.enc (ext w y) v' (dropR k a q l) := by
  by_cases h : Chk mostS S.may S.same l
  · rw [dropR_yes h]; exact (rdrop_yes l v k a q w hv h).mono fun _ _ ⟨v', y, h1, h2, h3⟩ => ⟨v', y, h1, h2, h3.has⟩
  · rw [dropR_no h]; exact (rdrop_no l v k a q w hv hmx h).mono fun _ _ ⟨h1, y, h2⟩ => ⟨_, y, h1, h2, .inl ⟨rfl, .inl rfl⟩⟩
theorem drop_any (l : List S) (v : Value) (k a q : Int) (hq0 : 0 ≤ q) (hq1 : q < 18446744073709551616) (w : World) (hv : Has S.enc w v l) :
    Calls Try.prog 27 #[v, tlbi k a q] w fun e w' => ∃ v' y, e = .returned v' ∧ w' = ext w y ∧ Has S.enc (ext w y) v' (dropR k a q l) := by
  by_cases h : Chk mostS S.may S.same l
  · rw [dropR_yes h]; exact (DropSteps_yes l v k a q hq0 hq1 w hv h).mono fun _ _ ⟨v', y, h1, h2, h3⟩ => ⟨v', y, h1, h2, h3.has⟩
  · rw [dropR_no h]; exact (DropSteps_no l v k a q w hv h).mono fun _ _ ⟨h1, y, h2⟩ => ⟨_, y, h1, h2, .inl ⟨rfl, .inl rfl⟩⟩
end Go.Proofs.Ytpolilljglfkoaa
