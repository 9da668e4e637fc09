/- TlbSteps walks to true. -/
import Derived.Test.YtpolilljglfkoaaTlbRefC
import Derived.Test.YtpolilljglfkoaaTlbRefF
import Derived.Test.YtpolilljglfkoaaTlbHS
import Derived.Test.YtpolilljglfkoaaTlbWakes
namespace Go.Proofs.Ytpolilljglfkoaa
open Go.RowKit
attribute [local go_sem ↓] Go.wp_at_zero Go.wp_at_succ

theorem keepL_len (l : List S) (x : S) (h : l.length ≤ 30) : (keepL l x).length ≤ 1000 := by
  unfold keepL fillL
  split
  · split
    · rw [List.length_set]; omega
    · rw [List.length_append, List.length_drop]; simp; omega
  · simp
theorem clearL_len (l : List S) (k : Int) (h : l.length ≤ 30) : (clearL l k).length ≤ 1000 := by
  unfold clearL
  split
  · have := List.length_eraseIdx_le l k.toNat; omega
  · simp
theorem dropR_len (k a q : Int) (l : List S) (h : l.length ≤ 30) : (dropR k a q l).length ≤ 1000 := by
  unfold dropR
  split
  · have := List.length_filter_le (fun x => !S.hits k a q x) l; omega
  · simp

set_option maxHeartbeats 4000000 in
theorem steps_go (l : List S) (v : Value) (x : S) (tk ta tq : Int) (a q k : Int) (hq0 : 0 ≤ tq) (hq1 : tq < 18446744073709551616) (w : World) (hv : Has S.enc w v l) :
    Calls Try.prog 8 #[v, x.v, tlbi tk ta tq, .int .i64 a, .int .u64 q, .int .i64 k] w fun e w' => e = .returned (.bool true) ∧ ∃ x, w' = ext w x := by
  have HV := Lib.hid hv
  have HQ := Lib.hid hq1; clear hq1
  have hkl : v = .slice none 0 0 ∧ l.length = 0 ∨ ∃ ad cap, v = .slice (some ad) l.length cap := by
    rcases hv with ⟨rfl, rfl | ⟨ad, cap, rfl⟩⟩ | ⟨_, b, o, cap, rfl, _⟩
    · exact .inl ⟨rfl, rfl⟩
    · exact .inr ⟨_, _, rfl⟩
    · exact .inr ⟨_, _, rfl⟩
  clear hv
  by_cases h30 : l.length ≤ 30
  · have hLK := keepL_len l x h30
    have hLC := clearL_len l k h30
    have hLD := dropR_len tk ta tq l h30
    have hmx : l.length ≤ 1000 := by omega
    obtain ⟨ke, hke⟩ : ∃ ke, keepE l x = ke := ⟨_, rfl⟩
    obtain ⟨ce, hce⟩ : ∃ ce, clearE l k = ce := ⟨_, rfl⟩
    obtain ⟨ck, hck⟩ : ∃ ck, chkV mostS S.may S.same l = ck := ⟨_, rfl⟩
    obtain ⟨r, hr⟩ : ∃ r, bestR a q l = r := ⟨_, rfl⟩
    obtain ⟨rb, hrb⟩ : ∃ rb, decide (0 < r.l) = rb := ⟨_, rfl⟩
    have HKE := Lib.hid hke; have HCE := Lib.hid hce; have HCK := Lib.hid hck; have HR := Lib.hid hr; have HRB := Lib.hid hrb
    have HLK := Lib.hid hLK; have HLC := Lib.hid hLC; have HLD := Lib.hid hLD; have HM := Lib.hid hmx
    clear hke hce hck hr hrb hLK hLC hLD hmx
    obtain ⟨W0, hW0⟩ : ∃ W0, W0 = (w.alloc (.cells #[x.c0, x.c1, x.c2, x.c3] 61)).alloc (.cells #[.int .i8 tk, .int .i64 ta, .int .u64 tq] 35) := ⟨_, rfl⟩
    have hcase : (v = .slice none 0 0 ∧ l.length = 0) ∨ ∃ ad cap, v = .slice (some ad) l.length cap ∧ (l.length : Int) ≤ 30 := by
      rcases hkl with h | ⟨ad, cap, h⟩
      · exact .inl h
      · exact .inr ⟨ad, cap, h, by omega⟩
    clear hkl
    have HCASE := Lib.hid hcase
    have hl30 : (l.length : Int) ≤ 30 := by omega
    rcases hcase with ⟨rfl, h0⟩ | ⟨ad, cap, rfl, _⟩
    · have H0 := Lib.hid h0; clear h0 h30 hl30
      go_enter Try.func8, Try.ntmps8
      go_wp2_with (first
        | (go_at_call 32; with_reducible refine (keep_any l _ x _ (HV.out.below up_below)).mono ?_; rintro e w' ⟨v1, y1, rfl, rfl, h1⟩; rw [HKE.out]; have H1 := Lib.hid h1; clear h1)
        | (go_at_call 33; with_reducible refine (rkeep_any l _ x _ (HV.out.below up_below) HM.out).mono ?_; rintro e w' ⟨v2, y2, rfl, rfl, h1⟩; rw [HKE.out]; have H2 := Lib.hid h1; clear h1)
        | (go_at_call 34; with_reducible refine (clear_any l _ k _ (HV.out.below up_below) HM.out).mono ?_; rintro e w' ⟨v3, y3, rfl, rfl, h1⟩; rw [HCE.out]; have H3 := Lib.hid h1; clear h1)
        | (go_at_call 35; with_reducible refine (rclear_any l _ k _ (HV.out.below up_below) HM.out).mono ?_; rintro e w' ⟨v4, y4, rfl, rfl, h1⟩; rw [HCE.out]; have H4 := Lib.hid h1; clear h1)
        | (go_at_call 26; with_reducible refine (best_any l _ a q _ (HV.out.below up_below) r HR.out rb HRB.out).mono ?_; rintro e w' ⟨rfl, y5, rfl⟩)
        | (go_at_call 36; with_reducible refine (rbest_any l _ a q _ (HV.out.below up_below) HM.out r HR.out rb HRB.out).mono ?_; rintro e w' ⟨rfl, y6, rfl⟩))
      rw [← hW0] at H1 H2 H3 H4 ⊢
      simp only [ext_ext'] at H1 H2 H3 H4
      have K1 : Hid (Has S.enc (ext W0 (exty W0 (exty W0 (exty W0 (exty W0 y1 y2) y3) y4) y5)) v1 (keepL l x)) := has_ext' (has_ext' (has_ext' (has_ext' H1.out)))
      have K2 : Hid (Has S.enc (ext W0 (exty W0 (exty W0 (exty W0 (exty W0 y1 y2) y3) y4) y5)) v2 (keepL l x)) := has_ext' (has_ext' (has_ext' H2.out))
      have K3 : Hid (Has S.enc (ext W0 (exty W0 (exty W0 (exty W0 (exty W0 y1 y2) y3) y4) y5)) v3 (clearL l k)) := has_ext' (has_ext' H3.out)
      have K4 : Hid (Has S.enc (ext W0 (exty W0 (exty W0 (exty W0 (exty W0 y1 y2) y3) y4) y5)) v4 (clearL l k)) := has_ext' H4.out
      clear H1 H2 H3 H4
      have hU0 : Up w.heap.size w W0 := by rw [hW0]; exact ((Up.refl _).alloc _).alloc _
      haveI j1 : LtW (w.heap.size + 1) W0 := ⟨by rw [hW0]; simp⟩
      have t0 : W0.cell? ⟨w.heap.size + 1, 0, none⟩ = some (.int .i8 tk) := by rw [hW0]; simp [go_sem]
      have t1 : W0.cell? ⟨w.heap.size + 1, 1, none⟩ = some (.int .i64 ta) := by rw [hW0]; simp [go_sem]
      have t2 : W0.cell? ⟨w.heap.size + 1, 2, none⟩ = some (.int .u64 tq) := by rw [hW0]; simp [go_sem]
      generalize exty W0 (exty W0 (exty W0 (exty W0 y1 y2) y3) y4) y5 = Y at K1 K2 K3 K4 ⊢
      have hU5 : Up w.heap.size w (ext W0 Y) := hU0.ext Y
      haveI j5 : LtW (w.heap.size + 1) (ext W0 Y) := inferInstance
      replace t0 : (ext W0 Y).cell? ⟨w.heap.size + 1, 0, none⟩ = some (.int .i8 tk) := by simp [go_sem, t0]
      replace t1 : (ext W0 Y).cell? ⟨w.heap.size + 1, 1, none⟩ = some (.int .i64 ta) := by simp [go_sem, t1]
      replace t2 : (ext W0 Y).cell? ⟨w.heap.size + 1, 2, none⟩ = some (.int .u64 tq) := by simp [go_sem, t2]
      clear hW0 hU0 j1
      generalize ext W0 Y = W5 at K1 K2 K3 K4 hU5 j5 t0 t1 t2 ⊢
      generalize w.heap.size + 1 = pt at j5 t0 t1 t2 ⊢
      have hB6 : Below W5.heap.size W5 (ext (W5.alloc (.cells #[r.c0, r.c1, r.c2, r.c3] 61)) y6) := up_below
      have hU6 : Up w.heap.size w (ext (W5.alloc (.cells #[r.c0, r.c1, r.c2, r.c3] 61)) y6) := (hU5.alloc _).ext y6
      have g0 : (ext (W5.alloc (.cells #[r.c0, r.c1, r.c2, r.c3] 61)) y6).cell? ⟨W5.heap.size, 0, none⟩ = some r.c0 := by simp [go_sem]
      have g1 : (ext (W5.alloc (.cells #[r.c0, r.c1, r.c2, r.c3] 61)) y6).cell? ⟨W5.heap.size, 1, none⟩ = some r.c1 := by simp [go_sem]
      have g2 : (ext (W5.alloc (.cells #[r.c0, r.c1, r.c2, r.c3] 61)) y6).cell? ⟨W5.heap.size, 2, none⟩ = some r.c2 := by simp [go_sem]
      have g3 : (ext (W5.alloc (.cells #[r.c0, r.c1, r.c2, r.c3] 61)) y6).cell? ⟨W5.heap.size, 3, none⟩ = some r.c3 := by simp [go_sem]
      haveI j6 : LtW W5.heap.size (ext (W5.alloc (.cells #[r.c0, r.c1, r.c2, r.c3] 61)) y6) := inferInstance
      generalize ext (W5.alloc (.cells #[r.c0, r.c1, r.c2, r.c3] 61)) y6 = W6 at hB6 hU6 g0 g1 g2 g3 j6 ⊢
      haveI j7 : LtW pt W6 := below_lt hB6 pt
      replace t0 := below_cell hB6 pt 0 t0
      replace t1 := below_cell hB6 pt 1 t1
      replace t2 := below_cell hB6 pt 2 t2
      replace K1 : Hid (Has S.enc W6 v1 (keepL l x)) := K1.out.below hB6
      replace K2 : Hid (Has S.enc W6 v2 (keepL l x)) := K2.out.below hB6
      replace K3 : Hid (Has S.enc W6 v3 (clearL l k)) := K3.out.below hB6
      replace K4 : Hid (Has S.enc W6 v4 (clearL l k)) := K4.out.below hB6
      clear hB6 hU5 j5
      generalize W5.heap.size = p1 at g0 g1 g2 g3 j6 ⊢
      have hB7 : Below W6.heap.size W6 (W6.alloc (.cells #[r.c0, r.c1, r.c2, r.c3] 61)) := up_below
      have hU7 : Up w.heap.size w (W6.alloc (.cells #[r.c0, r.c1, r.c2, r.c3] 61)) := hU6.alloc _
      have e0 : (W6.alloc (.cells #[r.c0, r.c1, r.c2, r.c3] 61)).cell? ⟨W6.heap.size, 0, none⟩ = some r.c0 := by simp [go_sem]
      have e1 : (W6.alloc (.cells #[r.c0, r.c1, r.c2, r.c3] 61)).cell? ⟨W6.heap.size, 1, none⟩ = some r.c1 := by simp [go_sem]
      have e2 : (W6.alloc (.cells #[r.c0, r.c1, r.c2, r.c3] 61)).cell? ⟨W6.heap.size, 2, none⟩ = some r.c2 := by simp [go_sem]
      have e3 : (W6.alloc (.cells #[r.c0, r.c1, r.c2, r.c3] 61)).cell? ⟨W6.heap.size, 3, none⟩ = some r.c3 := by simp [go_sem]
      haveI j8 : LtW W6.heap.size (W6.alloc (.cells #[r.c0, r.c1, r.c2, r.c3] 61)) := inferInstance
      generalize W6.alloc (.cells #[r.c0, r.c1, r.c2, r.c3] 61) = W7 at hB7 hU7 e0 e1 e2 e3 j8 ⊢
      haveI j9 : LtW pt W7 := below_lt hB7 pt
      haveI j10 : LtW p1 W7 := below_lt hB7 p1
      replace t0 := below_cell hB7 pt 0 t0
      replace t1 := below_cell hB7 pt 1 t1
      replace t2 := below_cell hB7 pt 2 t2
      replace g0 := below_cell hB7 p1 0 g0
      replace g1 := below_cell hB7 p1 1 g1
      replace g2 := below_cell hB7 p1 2 g2
      replace g3 := below_cell hB7 p1 3 g3
      replace K1 : Hid (Has S.enc W7 v1 (keepL l x)) := K1.out.below hB7
      replace K2 : Hid (Has S.enc W7 v2 (keepL l x)) := K2.out.below hB7
      replace K3 : Hid (Has S.enc W7 v3 (clearL l k)) := K3.out.below hB7
      replace K4 : Hid (Has S.enc W7 v4 (clearL l k)) := K4.out.below hB7
      clear hB7 hU6 j6 j7
      generalize W6.heap.size = p2 at e0 e1 e2 e3 j8 ⊢
      have HVV : Hid (Has S.enc W7 _ l) := HV.out.below hU7.below
      have HU7 := Lib.hid hU7; clear hU7 HV
      go_wp2_with fail
      set_option maxRecDepth 20000 in
      go_region_held3 (fun W => W.cell? ⟨pt, 0, none⟩ = some (.int .i8 tk) ∧ W.cell? ⟨pt, 1, none⟩ = some (.int .i64 ta) ∧ W.cell? ⟨pt, 2, none⟩ = some (.int .u64 tq) ∧ W.cell? ⟨p1, 0, none⟩ = some r.c0 ∧ W.cell? ⟨p1, 1, none⟩ = some r.c1 ∧ W.cell? ⟨p1, 2, none⟩ = some r.c2 ∧ W.cell? ⟨p1, 3, none⟩ = some r.c3 ∧ W.cell? ⟨p2, 0, none⟩ = some r.c0 ∧ W.cell? ⟨p2, 1, none⟩ = some r.c1 ∧ W.cell? ⟨p2, 2, none⟩ = some r.c2 ∧ W.cell? ⟨p2, 3, none⟩ = some r.c3)
        (first | (go_keep; done) | (refine ⟨?_, ?_, ?_, ?_, ?_, ?_, ?_, ?_, ?_, ?_, ?_⟩ <;> simp [go_sem, t0, t1, t2, g0, g1, g2, g3, e0, e1, e2, e3]))
        (first
          | (go_at_call 24; with_reducible refine (CheckSteps_any l _ _ (HVV.out.below up_below) ck HCK.out).mono ?_; rintro e w' ⟨rfl, z1, rfl⟩)
          | (go_at_call 37; with_reducible refine (rcheck_any l _ _ (HVV.out.below up_below) HM.out ck HCK.out).mono ?_; rintro e w' ⟨rfl, z2, rfl⟩)
          | (go_at_call 38; with_reducible refine (SameSteps_eq (keepL l x) v1 v2 _ HLK.out (K1.out.below up_below) (K2.out.below up_below)).mono ?_; rintro e w' ⟨rfl, z3, rfl⟩)
          | (go_at_call 38; with_reducible refine (SameSteps_eq (clearL l k) v3 v4 _ HLC.out (K3.out.below up_below) (K4.out.below up_below)).mono ?_; rintro e w' ⟨rfl, z4, rfl⟩)
          | (go_at_call 27; with_reducible refine (drop_any l _ tk ta tq hq0 HQ.out _ (HVV.out.below up_below)).mono ?_; rintro e w' ⟨v5, z5, rfl, rfl, h5⟩; (try simp only [ext_ext'] at h5); have H5 := Lib.hid h5; clear h5)
          | (go_at_call 39; with_reducible refine (rdrop_any l _ tk ta tq _ (HVV.out.below up_below) HM.out).mono ?_; rintro e w' ⟨v6, z6, rfl, rfl, h6⟩; (try simp only [ext_ext'] at h6); have H6 := Lib.hid h6; clear h6)
          | (go_at_call 38; with_reducible refine (SameSteps_eq (dropR tk ta tq l) v5 v6 _ HLD.out (by repeat (first | with_reducible exact H5.out | with_reducible apply has_ext' | with_reducible apply has_exd' | with_reducible apply has_drew | with_reducible apply has_alloc | with_reducible apply Has.ext)) (by repeat (first | with_reducible exact H6.out | with_reducible apply has_ext' | with_reducible apply has_exd' | with_reducible apply has_drew | with_reducible apply has_alloc | with_reducible apply Has.ext))).mono ?_; rintro e w' ⟨rfl, z7, rfl⟩)
          | (go_at_call 25; with_reducible refine (wakes11 _).mono ?_; rintro e w' ⟨rfl, z8, rfl⟩))
      all_goals
        go_wp2
        go_ret
        exact ⟨rfl, ext_of ((HU7.out.trans (by (repeat (first | with_reducible exact Up.refl _ | with_reducible apply Up.drew | with_reducible apply Up.drewN | with_reducible apply Up.alloc | with_reducible apply Up.ext)))).below)⟩
    · clear h30
      go_enter Try.func8, Try.ntmps8
      go_wp2_with (first
        | (go_at_call 32; with_reducible refine (keep_any l _ x _ (HV.out.below up_below)).mono ?_; rintro e w' ⟨v1, y1, rfl, rfl, h1⟩; rw [HKE.out]; have H1 := Lib.hid h1; clear h1)
        | (go_at_call 33; with_reducible refine (rkeep_any l _ x _ (HV.out.below up_below) HM.out).mono ?_; rintro e w' ⟨v2, y2, rfl, rfl, h1⟩; rw [HKE.out]; have H2 := Lib.hid h1; clear h1)
        | (go_at_call 34; with_reducible refine (clear_any l _ k _ (HV.out.below up_below) HM.out).mono ?_; rintro e w' ⟨v3, y3, rfl, rfl, h1⟩; rw [HCE.out]; have H3 := Lib.hid h1; clear h1)
        | (go_at_call 35; with_reducible refine (rclear_any l _ k _ (HV.out.below up_below) HM.out).mono ?_; rintro e w' ⟨v4, y4, rfl, rfl, h1⟩; rw [HCE.out]; have H4 := Lib.hid h1; clear h1)
        | (go_at_call 26; with_reducible refine (best_any l _ a q _ (HV.out.below up_below) r HR.out rb HRB.out).mono ?_; rintro e w' ⟨rfl, y5, rfl⟩)
        | (go_at_call 36; with_reducible refine (rbest_any l _ a q _ (HV.out.below up_below) HM.out r HR.out rb HRB.out).mono ?_; rintro e w' ⟨rfl, y6, rfl⟩))
      rw [← hW0] at H1 H2 H3 H4 ⊢
      simp only [ext_ext'] at H1 H2 H3 H4
      have K1 : Hid (Has S.enc (ext W0 (exty W0 (exty W0 (exty W0 (exty W0 y1 y2) y3) y4) y5)) v1 (keepL l x)) := has_ext' (has_ext' (has_ext' (has_ext' H1.out)))
      have K2 : Hid (Has S.enc (ext W0 (exty W0 (exty W0 (exty W0 (exty W0 y1 y2) y3) y4) y5)) v2 (keepL l x)) := has_ext' (has_ext' (has_ext' H2.out))
      have K3 : Hid (Has S.enc (ext W0 (exty W0 (exty W0 (exty W0 (exty W0 y1 y2) y3) y4) y5)) v3 (clearL l k)) := has_ext' (has_ext' H3.out)
      have K4 : Hid (Has S.enc (ext W0 (exty W0 (exty W0 (exty W0 (exty W0 y1 y2) y3) y4) y5)) v4 (clearL l k)) := has_ext' H4.out
      clear H1 H2 H3 H4
      have hU0 : Up w.heap.size w W0 := by rw [hW0]; exact ((Up.refl _).alloc _).alloc _
      haveI j1 : LtW (w.heap.size + 1) W0 := ⟨by rw [hW0]; simp⟩
      have t0 : W0.cell? ⟨w.heap.size + 1, 0, none⟩ = some (.int .i8 tk) := by rw [hW0]; simp [go_sem]
      have t1 : W0.cell? ⟨w.heap.size + 1, 1, none⟩ = some (.int .i64 ta) := by rw [hW0]; simp [go_sem]
      have t2 : W0.cell? ⟨w.heap.size + 1, 2, none⟩ = some (.int .u64 tq) := by rw [hW0]; simp [go_sem]
      generalize exty W0 (exty W0 (exty W0 (exty W0 y1 y2) y3) y4) y5 = Y at K1 K2 K3 K4 ⊢
      have hU5 : Up w.heap.size w (ext W0 Y) := hU0.ext Y
      haveI j5 : LtW (w.heap.size + 1) (ext W0 Y) := inferInstance
      replace t0 : (ext W0 Y).cell? ⟨w.heap.size + 1, 0, none⟩ = some (.int .i8 tk) := by simp [go_sem, t0]
      replace t1 : (ext W0 Y).cell? ⟨w.heap.size + 1, 1, none⟩ = some (.int .i64 ta) := by simp [go_sem, t1]
      replace t2 : (ext W0 Y).cell? ⟨w.heap.size + 1, 2, none⟩ = some (.int .u64 tq) := by simp [go_sem, t2]
      clear hW0 hU0 j1
      generalize ext W0 Y = W5 at K1 K2 K3 K4 hU5 j5 t0 t1 t2 ⊢
      generalize w.heap.size + 1 = pt at j5 t0 t1 t2 ⊢
      have hB6 : Below W5.heap.size W5 (ext (W5.alloc (.cells #[r.c0, r.c1, r.c2, r.c3] 61)) y6) := up_below
      have hU6 : Up w.heap.size w (ext (W5.alloc (.cells #[r.c0, r.c1, r.c2, r.c3] 61)) y6) := (hU5.alloc _).ext y6
      have g0 : (ext (W5.alloc (.cells #[r.c0, r.c1, r.c2, r.c3] 61)) y6).cell? ⟨W5.heap.size, 0, none⟩ = some r.c0 := by simp [go_sem]
      have g1 : (ext (W5.alloc (.cells #[r.c0, r.c1, r.c2, r.c3] 61)) y6).cell? ⟨W5.heap.size, 1, none⟩ = some r.c1 := by simp [go_sem]
      have g2 : (ext (W5.alloc (.cells #[r.c0, r.c1, r.c2, r.c3] 61)) y6).cell? ⟨W5.heap.size, 2, none⟩ = some r.c2 := by simp [go_sem]
      have g3 : (ext (W5.alloc (.cells #[r.c0, r.c1, r.c2, r.c3] 61)) y6).cell? ⟨W5.heap.size, 3, none⟩ = some r.c3 := by simp [go_sem]
      haveI j6 : LtW W5.heap.size (ext (W5.alloc (.cells #[r.c0, r.c1, r.c2, r.c3] 61)) y6) := inferInstance
      generalize ext (W5.alloc (.cells #[r.c0, r.c1, r.c2, r.c3] 61)) y6 = W6 at hB6 hU6 g0 g1 g2 g3 j6 ⊢
      haveI j7 : LtW pt W6 := below_lt hB6 pt
      replace t0 := below_cell hB6 pt 0 t0
      replace t1 := below_cell hB6 pt 1 t1
      replace t2 := below_cell hB6 pt 2 t2
      replace K1 : Hid (Has S.enc W6 v1 (keepL l x)) := K1.out.below hB6
      replace K2 : Hid (Has S.enc W6 v2 (keepL l x)) := K2.out.below hB6
      replace K3 : Hid (Has S.enc W6 v3 (clearL l k)) := K3.out.below hB6
      replace K4 : Hid (Has S.enc W6 v4 (clearL l k)) := K4.out.below hB6
      clear hB6 hU5 j5
      generalize W5.heap.size = p1 at g0 g1 g2 g3 j6 ⊢
      have hB7 : Below W6.heap.size W6 (W6.alloc (.cells #[r.c0, r.c1, r.c2, r.c3] 61)) := up_below
      have hU7 : Up w.heap.size w (W6.alloc (.cells #[r.c0, r.c1, r.c2, r.c3] 61)) := hU6.alloc _
      have e0 : (W6.alloc (.cells #[r.c0, r.c1, r.c2, r.c3] 61)).cell? ⟨W6.heap.size, 0, none⟩ = some r.c0 := by simp [go_sem]
      have e1 : (W6.alloc (.cells #[r.c0, r.c1, r.c2, r.c3] 61)).cell? ⟨W6.heap.size, 1, none⟩ = some r.c1 := by simp [go_sem]
      have e2 : (W6.alloc (.cells #[r.c0, r.c1, r.c2, r.c3] 61)).cell? ⟨W6.heap.size, 2, none⟩ = some r.c2 := by simp [go_sem]
      have e3 : (W6.alloc (.cells #[r.c0, r.c1, r.c2, r.c3] 61)).cell? ⟨W6.heap.size, 3, none⟩ = some r.c3 := by simp [go_sem]
      haveI j8 : LtW W6.heap.size (W6.alloc (.cells #[r.c0, r.c1, r.c2, r.c3] 61)) := inferInstance
      generalize W6.alloc (.cells #[r.c0, r.c1, r.c2, r.c3] 61) = W7 at hB7 hU7 e0 e1 e2 e3 j8 ⊢
      haveI j9 : LtW pt W7 := below_lt hB7 pt
      haveI j10 : LtW p1 W7 := below_lt hB7 p1
      replace t0 := below_cell hB7 pt 0 t0
      replace t1 := below_cell hB7 pt 1 t1
      replace t2 := below_cell hB7 pt 2 t2
      replace g0 := below_cell hB7 p1 0 g0
      replace g1 := below_cell hB7 p1 1 g1
      replace g2 := below_cell hB7 p1 2 g2
      replace g3 := below_cell hB7 p1 3 g3
      replace K1 : Hid (Has S.enc W7 v1 (keepL l x)) := K1.out.below hB7
      replace K2 : Hid (Has S.enc W7 v2 (keepL l x)) := K2.out.below hB7
      replace K3 : Hid (Has S.enc W7 v3 (clearL l k)) := K3.out.below hB7
      replace K4 : Hid (Has S.enc W7 v4 (clearL l k)) := K4.out.below hB7
      clear hB7 hU6 j6 j7
      generalize W6.heap.size = p2 at e0 e1 e2 e3 j8 ⊢
      have HVV : Hid (Has S.enc W7 _ l) := HV.out.below hU7.below
      have HU7 := Lib.hid hU7; clear hU7 HV
      go_wp2_with fail
      set_option maxRecDepth 20000 in
      go_region_held3 (fun W => W.cell? ⟨pt, 0, none⟩ = some (.int .i8 tk) ∧ W.cell? ⟨pt, 1, none⟩ = some (.int .i64 ta) ∧ W.cell? ⟨pt, 2, none⟩ = some (.int .u64 tq) ∧ W.cell? ⟨p1, 0, none⟩ = some r.c0 ∧ W.cell? ⟨p1, 1, none⟩ = some r.c1 ∧ W.cell? ⟨p1, 2, none⟩ = some r.c2 ∧ W.cell? ⟨p1, 3, none⟩ = some r.c3 ∧ W.cell? ⟨p2, 0, none⟩ = some r.c0 ∧ W.cell? ⟨p2, 1, none⟩ = some r.c1 ∧ W.cell? ⟨p2, 2, none⟩ = some r.c2 ∧ W.cell? ⟨p2, 3, none⟩ = some r.c3)
        (first | (go_keep; done) | (refine ⟨?_, ?_, ?_, ?_, ?_, ?_, ?_, ?_, ?_, ?_, ?_⟩ <;> simp [go_sem, t0, t1, t2, g0, g1, g2, g3, e0, e1, e2, e3]))
        (first
          | (go_at_call 24; with_reducible refine (CheckSteps_any l _ _ (HVV.out.below up_below) ck HCK.out).mono ?_; rintro e w' ⟨rfl, z1, rfl⟩)
          | (go_at_call 37; with_reducible refine (rcheck_any l _ _ (HVV.out.below up_below) HM.out ck HCK.out).mono ?_; rintro e w' ⟨rfl, z2, rfl⟩)
          | (go_at_call 38; with_reducible refine (SameSteps_eq (keepL l x) v1 v2 _ HLK.out (K1.out.below up_below) (K2.out.below up_below)).mono ?_; rintro e w' ⟨rfl, z3, rfl⟩)
          | (go_at_call 38; with_reducible refine (SameSteps_eq (clearL l k) v3 v4 _ HLC.out (K3.out.below up_below) (K4.out.below up_below)).mono ?_; rintro e w' ⟨rfl, z4, rfl⟩)
          | (go_at_call 27; with_reducible refine (drop_any l _ tk ta tq hq0 HQ.out _ (HVV.out.below up_below)).mono ?_; rintro e w' ⟨v5, z5, rfl, rfl, h5⟩; (try simp only [ext_ext'] at h5); have H5 := Lib.hid h5; clear h5)
          | (go_at_call 39; with_reducible refine (rdrop_any l _ tk ta tq _ (HVV.out.below up_below) HM.out).mono ?_; rintro e w' ⟨v6, z6, rfl, rfl, h6⟩; (try simp only [ext_ext'] at h6); have H6 := Lib.hid h6; clear h6)
          | (go_at_call 38; with_reducible refine (SameSteps_eq (dropR tk ta tq l) v5 v6 _ HLD.out (by repeat (first | with_reducible exact H5.out | with_reducible apply has_ext' | with_reducible apply has_exd' | with_reducible apply has_drew | with_reducible apply has_alloc | with_reducible apply Has.ext)) (by repeat (first | with_reducible exact H6.out | with_reducible apply has_ext' | with_reducible apply has_exd' | with_reducible apply has_drew | with_reducible apply has_alloc | with_reducible apply Has.ext))).mono ?_; rintro e w' ⟨rfl, z7, rfl⟩)
          | (go_at_call 25; with_reducible refine (wakes11 _).mono ?_; rintro e w' ⟨rfl, z8, rfl⟩))
      all_goals
        go_wp2
        go_ret
        exact ⟨rfl, ext_of ((HU7.out.trans (by (repeat (first | with_reducible exact Up.refl _ | with_reducible apply Up.drew | with_reducible apply Up.drewN | with_reducible apply Up.alloc | with_reducible apply Up.ext)))).below)⟩
  · rcases hkl with ⟨_, h0⟩ | ⟨ad, cap, rfl⟩
    · omega
    · have h31 : (30 : Int) < (l.length : Int) := by omega
      clear h30 HV
      go_enter Try.func8, Try.ntmps8
      go_wp2_with (go_at_call 25; with_reducible refine (wakes11 _).mono ?_; rintro e w' ⟨rfl, z, rfl⟩)
      go_ret
      exact ⟨rfl, up_to⟩

theorem TlbSteps_walk (w : World) (l : List S) (v : Value) (xa xl xp xf tk ta tq a q k : Int) (hv : Has S.enc w v l) (_ : (Lit.int .i64 xa).wf = true) (_ : (Lit.int .i8 xl).wf = true) (_ : (Lit.int .u64 xp).wf = true) (_ : (Lit.int .i64 xf).wf = true)
    (_ : (Lit.int .i8 tk).wf = true) (_ : (Lit.int .i64 ta).wf = true) (w1 : (Lit.int .u64 tq).wf = true) (_ : (Lit.int .i64 a).wf = true) (_ : (Lit.int .u64 q).wf = true) (_ : (Lit.int .i64 k).wf = true) :
    Calls Try.prog 8 #[v, stp xa xl xp xf, tlbi tk ta tq, .int .i64 a, .int .u64 q, .int .i64 k] w fun e w' => e = .returned (.bool true) ∧ ∃ x, w' = ext w x := by
  obtain ⟨h10, h11⟩ := bd_u64 w1
  exact steps_go l v ⟨xa, xl, xp, xf⟩ tk ta tq a q k h10 h11 w hv
end Go.Proofs.Ytpolilljglfkoaa
