/- WalkTouch walks to true. -/
import Derived.Test.YtcjklghjnbhcdaaWTouchM
import Derived.Test.YtcjklghjnbhcdaaWBoth
import Derived.Test.YtcjklghjnbhcdaaWWakes
import Derived.WalkMore
namespace Go.Proofs.Ytcjklghjnbhcdaa
open Go.RowKit

theorem Chg.setRow {F : Nat → Prop} {W W' : World} (h : Chg F W W') (g : Nat) (C : Array Value) (hb : F g ∨ W.heap.size ≤ g) : Chg F W (W'.setRow g C) := by
  refine ⟨h.os, h.tape, h.output, by simpa using h.size, fun k hk hn => ?_⟩
  unfold World.setRow
  simp only [Array.getElem?_modify]
  rw [if_neg (fun e => by
    rcases hb with hb | hb
    · exact hn (e ▸ hb)
    · omega)]
  exact h.block k hk hn

theorem tmod_in (x m : Int) (m0 : 0 < m) (m1 : m < 1000) : ∃ X, (wrap64 (x.tmod m + m)).tmod m = X ∧ 0 ≤ X ∧ X < m := by
  have h1 := Int.tmod_lt_of_pos x (b := m) m0
  have h2 : -m < x.tmod m := by
    have := Int.lt_tmod_of_pos x (b := m) m0
    omega
  have e : wrap64 (x.tmod m + m) = x.tmod m + m := by unfold wrap64; omega
  rw [e, Int.tmod_eq_emod_of_nonneg (by omega)]
  exact ⟨_, rfl, Int.emod_nonneg _ (by omega), Int.emod_lt_of_pos _ m0⟩

theorem RowW.chg {F : Nat → Prop} {W W' : World} {n : Nat} {c : Array Value} {t : TypeId} (h : RowW n W c t) (hC : Chg F W W') (hn : ¬ F n) : RowW n W' c t := ⟨(hC.block n (row_lt h.row) hn).trans h.row⟩
abbrev walkOff : Array Value := #[.bool false, .int .i64 0, .int .u64 0, .int .i8 0, .int .i64 0]
abbrev walkOn (a p l f : Int) : Array Value := #[.bool true, .int .i64 a, .int .u64 p, .int .i8 l, .int .i64 f]

set_option maxRecDepth 100000 in
set_option maxHeartbeats 4000000 in
theorem WalkTouch_walk (w : World) (l : List W2) (v : Value) (root asid page : Int) (hv : Wrs w v l) (_ : (Lit.int .i64 root).wf = true) (_ : (Lit.int .i64 asid).wf = true) (wp : (Lit.int .u64 page).wf = true) :
    Calls Try.prog 7 #[v, .int .i64 root, .int .i64 asid, .int .u64 page] w fun e w' => e = .returned (.bool true) ∧ ∃ x, w' = ext w x := by
  obtain ⟨p0, p2⟩ := bd_u64 wp
  obtain ⟨ad, cap, hs, hr⟩ := hv
  have HV : Hid (Wrs w v l) := Lib.hid ⟨ad, cap, hs, hr⟩
  clear hr wp
  by_cases hl : 300 < l.length
  · have hlz : (300 : Int) < (l.length : Int) := by omega
    subst hs
    clear HV
    go_enter Try.func7, Try.ntmps7
    go_wp2_with (go_at_call 13; with_reducible refine (wakes12 _).mono ?_; rintro e w' ⟨rfl, z, rfl⟩)
    go_ret
    exact ⟨rfl, up_to⟩
  · have hlz : (l.length : Int) ≤ 300 := by omega
    have HL := Lib.hid (show l.length ≤ 300 by omega)
    subst hs
    clear hl
    obtain ⟨R, hR, R0, R1⟩ := tmod_in root 15 (by decide) (by decide)
    obtain ⟨A, hA, A0, A1⟩ := tmod_in asid 255 (by decide) (by decide)
    obtain ⟨p, hp, q0, q1⟩ : ∃ p, page % 34359738368 = p ∧ 0 ≤ p ∧ p < 34359738368 := ⟨_, rfl, by omega, by omega⟩
    have hb : beginOk (1 + R) (1 + A) p [] := ⟨by omega, by unfold chkW; rw [if_pos ⟨rfl, by omega, by omega, by omega, by omega, by omega, by omega, by omega⟩], chk_nil⟩
    obtain ⟨hBC, hBE⟩ := begin_nil_ok hb
    have HB := Lib.hid hb; have HBC := Lib.hid hBC; have HBE := Lib.hid hBE
    clear hb hBC hBE
    go_enter Try.func7, Try.ntmps7
    go_wp2_with (go_at_call 22; refine (both_any l _ _ HV.out HL.out).mono ?_; rintro e w1 ⟨b, rb, rfl, h1⟩; have H1 := Lib.hid h1; clear h1)
    refine (begin_any (1 + R) (1 + A) p [] _ _ (has_nilS _)).mono ?_
    rintro e w2 ⟨e1, z, e2⟩
    rw [HBC.out, HBE.out] at e1
    subst e1
    obtain ⟨F, G, D, m, frs, rl, hM, _, _, hF, _, hU⟩ := H1.out
    have HM2 : Hid (MemAt F w2 b 16 (memOf l) l.length m D frs) := Lib.hid (hM.below (by rw [e2]; exact ext_below _ _))
    have HU2 : Hid (Up w.heap.size w w2) := Lib.hid (by rw [e2]; exact hU.ext _)
    have HF : Hid (∀ i, F i → w.heap.size ≤ i) := Lib.hid hF
    clear hM hF hU e2 H1 hR hA
    obtain ⟨_, c2, _⟩ := HB.out
    obtain ⟨_, _, _, r0, r1, a1, a2, p1⟩ := chk_zero c2
    have HP : Hid (1 ≤ 1 + A ∧ 1 + A ≤ 255 ∧ p < 34359738368) := Lib.hid ⟨a1, a2, p1⟩
    have H0 := Lib.hid q0
    clear HB HBC HBE c2 a1 a2 p1 A0 A1 q0 q1 R0 R1
    go_wp2_with fail
    have HC3 : Hid (RowW w2.heap.size (w2.alloc (.cells (walkOn (1 + A) p 0 (1 + R)) 39)) (walkOn (1 + A) p 0 (1 + R)) 39) := Lib.hid inferInstance
    have HU3 : Hid (Up w.heap.size w (w2.alloc (.cells (walkOn (1 + A) p 0 (1 + R)) 39))) := Lib.hid (HU2.out.alloc _)
    have HM3 : Hid (MemAt F (w2.alloc (.cells (walkOn (1 + A) p 0 (1 + R)) 39)) b 16 (memOf l) l.length m D frs) := Lib.hid (HM2.out.below up_below)
    have HQ : Hid (w.heap.size ≤ w2.heap.size ∧ ∀ i, F i → i < w2.heap.size) := Lib.hid ⟨HU2.out.le, HM2.out.fl⟩
    have hqlt : LtW w2.heap.size (w2.alloc (.cells (walkOn (1 + A) p 0 (1 + R)) 39)) := inferInstance
    clear HU2 HM2
    generalize w2.heap.size = q at *
    generalize w2.alloc _ = w3 at *
    generalize 1 + A = a at *
    generalize 1 + R = root' at *
    generalize hls : l = ls at *
    clear hls
    go_loopw [14] (fun k wr => (∃ l f0 : Int, 0 ≤ l ∧ l ≤ 3 ∧ 0 ≤ f0 ∧ f0 < 64 ∧ k = .int .i64 l ∧ Hid (RowW q wr (walkOn a p l f0) 39) ∧ Hid (Chg (fun i => i = q) w3 wr)) ∨
      (∃ i : Int, 1 ≤ i ∧ i ≤ 4 ∧ k = .int .i64 i ∧ Hid (RowW q wr walkOff 39) ∧ Hid (Chg (fun i => i = q) w3 wr))) (fun k _ => (5 - intOf k).toNat)
    case atStart => exact .inl ⟨0, root', by omega, by omega, r0, r1, rfl, HC3, Lib.hid (Chg.refl _ _)⟩
    case round =>
      clear HC3 r0 r1
      rcases hrel with ⟨l, fr, l0, l3, f0, f1, rfl, HR, HC⟩ | ⟨i, i1, i4, rfl, HR, HC⟩
      · have hck : chkW true a p l fr = 0 := by obtain ⟨q1, q2, q3⟩ := HP.out; unfold chkW; rw [if_pos ⟨rfl, l0, l3, f0, f1, q1, q2, q3⟩]
        have HCK := Lib.hid hck
        obtain ⟨i0, i1⟩ := index_bounds p l H0.out
        obtain ⟨X, hX⟩ : ∃ X, wordN p l fr = X := ⟨_, rfl⟩
        have hXv : wordV true a p l fr = (X : Int) := by rw [wordV, if_pos hck, ← hX]; unfold wordN; omega
        have hXb : X < 18446744073709551616 := by rw [← hX]; unfold wordN; omega
        have HWV := Lib.hid hXv; have HXB := Lib.hid hXb
        have hR := HR.out
        have hlq : LtW q wr := ⟨row_lt hR.row⟩
        have HUP : Hid (Up w.heap.size w wr) := Lib.hid ⟨HU3.out.below.trans (HC.out.below (fun k e => e ▸ HQ.out.1) HU3.out.le), Nat.le_trans HU3.out.le HC.out.size⟩
        have HM : Hid (MemAt F wr b 16 (memOf ls) ls.length m D frs) := Lib.hid (HM3.out.chg HC.out (fun i e hf => by have := HQ.out.2 i hf; omega))
        have l4 : l < 4 := by omega
        clear hX hXv hXb i0 i1 hck HR
        by_cases hn : X / 512 < 16
        · obtain ⟨N, hN⟩ : ∃ N, nextC true a p l fr (memOf ls X) = N := ⟨_, rfl⟩
          have hNs := nextC_size true a p l fr (memOf ls X)
          have hN1 := nextC_one true a p l fr (memOf ls X)
          have HFX : Hid (memOf ls X < 18446744073709551616) := Lib.hid (HM.out.val X)
          have hcase := nextC_case (X := memOf ls X) HCK.out
          rw [hN] at hcase hNs hN1
          have HN := Lib.hid hN
          clear hN
          rcases hcase with ⟨fr2, qq, l2, g0, g1, hO⟩ | hO | ⟨fr2, ro, hO⟩ | ⟨fr2, ro, hO, t1, t2, hN2⟩
          · have n0 : N[0]? = some (.bool true) := by rw [hO]; rfl
            have n1 : N[1]? = some (.int .i64 a) := by rw [hO]; rfl
            have n2 : N[2]? = some (.int .u64 p) := by rw [hO]; rfl
            have n3 : N[3]? = some (.int .i8 (l + 1)) := by rw [hO]; rfl
            have n4 : N[4]? = some (.int .i64 fr2) := by rw [hO]; rfl
            have n18 : N[18]? = some (.bool false) := by rw [hO]; rfl
            have m0 := get_of n0; have m1 := get_of n1; have m2 := get_of n2; have m3 := get_of n3; have m4 := get_of n4; have m18 := get_of n18
            clear hO
            repeat (first
              | (go_at_call 16; with_reducible refine (word_any true a p l fr H0.out _ _ HWV.out 0 HCK.out).mono ?_; rintro e w' ⟨rfl, y, rfl⟩; simp only [])
              | (go_at_call 25; with_reducible refine (mread_any (HM.out.below (ext_below _ _)) X HXB.out hn).mono ?_; rintro e w' ⟨rfl, y, rfl⟩; simp only [ext_ext'])
              | (go_at_call 20; with_reducible refine (next_any true a p l fr H0.out (memOf ls X) HFX.out _).mono ?_; rintro e w' ⟨e1, y, rfl⟩; rw [HN.out, HCK.out] at e1; subst e1; simp only [ext_ext'])
              | (with_reducible refine at_op (.store 58 (.tmp 19) (.tmp 86)) rfl ?_; intro _; refine step_store20 58 (.tmp 19) (.tmp 86) rfl _ _ rfl rfl _ _ inferInstance (by kernel_rfl) rfl hNs hN1 _ rfl ?_; simp only [setRow_new_tc, setRow_alloc_tc, setRow_drew_tc, setRow_ext])
              | go_values | go_skip | go_guarded | go_step | go_upon | go_step3)
            go_roundw
            case rel => exact .inl ⟨l + 1, fr2, by omega, by omega, g0, g1, by go_num, Lib.hid inferInstance, Lib.hid (by (repeat (first | with_reducible exact HC.out | with_reducible apply Chg.drew | with_reducible apply Chg.alloc | with_reducible apply Chg.ext | with_reducible refine Chg.setRow ?_ _ _ (.inl rfl))))⟩
            case measure => simp [intOf]; omega
          · have n0 : N[0]? = some (.bool false) := by rw [hO]; rfl
            have n1 : N[1]? = some (.int .i64 0) := by rw [hO]; rfl
            have n2 : N[2]? = some (.int .u64 0) := by rw [hO]; rfl
            have n3 : N[3]? = some (.int .i8 0) := by rw [hO]; rfl
            have n4 : N[4]? = some (.int .i64 0) := by rw [hO]; rfl
            have n18 : N[18]? = some (.bool false) := by rw [hO]; rfl
            have m0 := get_of n0; have m1 := get_of n1; have m2 := get_of n2; have m3 := get_of n3; have m4 := get_of n4; have m18 := get_of n18
            clear hO
            repeat (first
              | (go_at_call 16; with_reducible refine (word_any true a p l fr H0.out _ _ HWV.out 0 HCK.out).mono ?_; rintro e w' ⟨rfl, y, rfl⟩; simp only [])
              | (go_at_call 25; with_reducible refine (mread_any (HM.out.below (ext_below _ _)) X HXB.out hn).mono ?_; rintro e w' ⟨rfl, y, rfl⟩; simp only [ext_ext'])
              | (go_at_call 20; with_reducible refine (next_any true a p l fr H0.out (memOf ls X) HFX.out _).mono ?_; rintro e w' ⟨e1, y, rfl⟩; rw [HN.out, HCK.out] at e1; subst e1; simp only [ext_ext'])
              | (with_reducible refine at_op (.store 58 (.tmp 19) (.tmp 86)) rfl ?_; intro _; refine step_store20 58 (.tmp 19) (.tmp 86) rfl _ _ rfl rfl _ _ inferInstance (by kernel_rfl) rfl hNs hN1 _ rfl ?_; simp only [setRow_new_tc, setRow_alloc_tc, setRow_drew_tc, setRow_ext])
              | go_values | go_skip | go_guarded | go_step | go_upon | go_step3)
            go_roundw
            case rel => exact .inr ⟨l + 1, by omega, by omega, by go_num, Lib.hid inferInstance, Lib.hid (by (repeat (first | with_reducible exact HC.out | with_reducible apply Chg.drew | with_reducible apply Chg.alloc | with_reducible apply Chg.ext | with_reducible refine Chg.setRow ?_ _ _ (.inl rfl))))⟩
            case measure => simp [intOf]; omega
          · have n0 : N[0]? = some (.bool false) := by rw [hO]; rfl
            have n1 : N[1]? = some (.int .i64 0) := by rw [hO]; rfl
            have n2 : N[2]? = some (.int .u64 0) := by rw [hO]; rfl
            have n3 : N[3]? = some (.int .i8 0) := by rw [hO]; rfl
            have n4 : N[4]? = some (.int .i64 0) := by rw [hO]; rfl
            have n18 : N[18]? = some (.bool false) := by rw [hO]; rfl
            have m0 := get_of n0; have m1 := get_of n1; have m2 := get_of n2; have m3 := get_of n3; have m4 := get_of n4; have m18 := get_of n18
            clear hO
            repeat (first
              | (go_at_call 16; with_reducible refine (word_any true a p l fr H0.out _ _ HWV.out 0 HCK.out).mono ?_; rintro e w' ⟨rfl, y, rfl⟩; simp only [])
              | (go_at_call 25; with_reducible refine (mread_any (HM.out.below (ext_below _ _)) X HXB.out hn).mono ?_; rintro e w' ⟨rfl, y, rfl⟩; simp only [ext_ext'])
              | (go_at_call 20; with_reducible refine (next_any true a p l fr H0.out (memOf ls X) HFX.out _).mono ?_; rintro e w' ⟨e1, y, rfl⟩; rw [HN.out, HCK.out] at e1; subst e1; simp only [ext_ext'])
              | (with_reducible refine at_op (.store 58 (.tmp 19) (.tmp 86)) rfl ?_; intro _; refine step_store20 58 (.tmp 19) (.tmp 86) rfl _ _ rfl rfl _ _ inferInstance (by kernel_rfl) rfl hNs hN1 _ rfl ?_; simp only [setRow_new_tc, setRow_alloc_tc, setRow_drew_tc, setRow_ext])
              | go_values | go_skip | go_guarded | go_step | go_upon | go_step3)
            go_roundw
            case rel => exact .inr ⟨l + 1, by omega, by omega, by go_num, Lib.hid inferInstance, Lib.hid (by (repeat (first | with_reducible exact HC.out | with_reducible apply Chg.drew | with_reducible apply Chg.alloc | with_reducible apply Chg.ext | with_reducible refine Chg.setRow ?_ _ _ (.inl rfl))))⟩
            case measure => simp [intOf]; omega
          · obtain ⟨V, hV⟩ : ∃ V, memOf ls X + 1024 = V := ⟨_, rfl⟩
            have hor : bits .or .u64 ((memOf ls X : Nat) : Int) 1024 = (V : Int) := by rw [or_1024 _ HFX.out t1, ← hV]; omega
            have hVz : ((memOf ls X : Nat) : Int) + 1024 = (V : Int) := by rw [← hV]; omega
            have HVB : Hid (V < 18446744073709551616) := Lib.hid (by rw [← hV]; omega)
            rw [hVz] at hO
            rw [hV] at hN2
            obtain ⟨N2, hN2e⟩ : ∃ N2, nextC true a p l fr V = N2 := ⟨_, rfl⟩
            have HN2 := Lib.hid hN2e
            have N2s : N2.size = 20 := by rw [← hN2e]; exact nextC_size _ _ _ _ _ _
            have N2o : N2.all (·.oneCell') = true := by rw [← hN2e]; exact nextC_one _ _ _ _ _ _
            rw [hN2e] at hN2
            have m10 := get_of (N := N) (i := 10) (v := .bool true) (by rw [hO]; rfl)
            have m11 := get_of (N := N) (i := 11) (v := .int .i64 a) (by rw [hO]; rfl)
            have m12 := get_of (N := N) (i := 12) (v := .int .u64 p) (by rw [hO]; rfl)
            have m13 := get_of (N := N) (i := 13) (v := .int .i64 fr2) (by rw [hO]; rfl)
            have m14 := get_of (N := N) (i := 14) (v := .bool ro) (by rw [hO]; rfl)
            have m18 := get_of (N := N) (i := 18) (v := .bool true) (by rw [hO]; rfl)
            have m19 := get_of (N := N) (i := 19) (v := .int .u64 (V : Int)) (by rw [hO]; rfl)
            have k10 := get_of (N := N2) (i := 10) (v := .bool true) (by rw [hN2]; rfl)
            have k11 := get_of (N := N2) (i := 11) (v := .int .i64 a) (by rw [hN2]; rfl)
            have k12 := get_of (N := N2) (i := 12) (v := .int .u64 p) (by rw [hN2]; rfl)
            have k13 := get_of (N := N2) (i := 13) (v := .int .i64 fr2) (by rw [hN2]; rfl)
            have k14 := get_of (N := N2) (i := 14) (v := .bool ro) (by rw [hN2]; rfl)
            have k18 := get_of (N := N2) (i := 18) (v := .bool false) (by rw [hN2]; rfl)
            clear hO hN2 hV hVz t1 t2 hN2e
            have HC100 : Hid (ls.length < 1000000) := Lib.hid (by omega)
            repeat (first
              | (go_at_call 16; with_reducible refine (word_any true a p l fr H0.out _ _ HWV.out 0 HCK.out).mono ?_; rintro e w' ⟨rfl, y, rfl⟩; simp only [])
              | (go_at_call 25; with_reducible refine (mread_any (HM.out.below (ext_below _ _)) X HXB.out hn).mono ?_; rintro e w' ⟨rfl, y, rfl⟩; simp only [ext_ext'])
              | (go_at_call 20; with_reducible refine (next_any true a p l fr H0.out (memOf ls X) HFX.out _).mono ?_
                 rintro e w4 ⟨e1, y, e4⟩
                 rw [HN.out, HCK.out] at e1
                 have HM4 : Hid (MemAt F w4 b 16 (memOf ls) ls.length m D frs) := Lib.hid ((HM.out.below (ext_below _ _)).below (by rw [e4]; exact ext_below _ _))
                 have HU4 : Hid (Up w.heap.size w w4) := Lib.hid (by rw [e4]; exact (HUP.out.ext _).ext _)
                 have hq4 : LtW q w4 := (by subst e4; infer_instance)
                 have hR4 : RowW q w4 (walkOn a p l fr) 39 := (by subst e4; infer_instance)
                 subst e1; clear e4; simp only [])
              | (go_at_call 26; with_reducible refine (mwrite_any (HM4.out.below up_below) HC100.out X HXB.out V HVB.out hn).mono ?_
                 rintro e w5 ⟨rfl, F5, D5, fr5, _, hC5, _⟩
                 have hR5 : RowW q w5 (walkOn a p l fr) 39 := RowW.chg (inferInstance : RowW q (w4.alloc (.cells N 58)) _ _) hC5 (fun hf => by have := HQ.out.2 q hf; omega)
                 have hg5 : RowW w4.heap.size w5 N 58 := RowW.chg (inferInstance : RowW w4.heap.size (w4.alloc (.cells N 58)) _ _) hC5 (fun hf => by have := HM4.out.fl _ hf; omega)
                 have hl5 : LtW w4.heap.size w5 := ⟨row_lt hg5.row⟩
                 have HU5 : Hid (Up w.heap.size w w5) := Lib.hid ⟨(HU4.out.alloc _).below.trans (hC5.below HF.out (HU4.out.alloc _).le), Nat.le_trans (HU4.out.alloc _).le hC5.size⟩
                 clear hC5; simp only [])
              | (go_at_call 20; with_reducible refine (next_any true a p l fr H0.out V HVB.out _).mono ?_
                 rintro e w6 ⟨e1, y, e6⟩
                 rw [HN2.out, HCK.out] at e1
                 have HU6 : Hid (Up w.heap.size w w6) := Lib.hid (by rw [e6]; exact HU5.out.ext _)
                 have hl6 : LtW w4.heap.size w6 := (by subst e6; infer_instance)
                 have hg6 : RowW w4.heap.size w6 N 58 := (by subst e6; infer_instance)
                 subst e1; clear e6; simp only [])
              | (with_reducible refine at_op (.store 58 (.tmp 19) (.tmp 86)) rfl ?_; intro _; refine step_store20 58 (.tmp 19) (.tmp 86) rfl _ _ rfl rfl _ _ inferInstance (by kernel_rfl) rfl hNs hN1 _ rfl ?_; simp only [setRow_new_tc, setRow_alloc_tc, setRow_drew_tc, setRow_ext])
              | (with_reducible refine at_op (.store 58 (.tmp 21) (.tmp 123)) rfl ?_; intro _; refine step_store20 58 (.tmp 21) (.tmp 123) rfl _ _ rfl rfl _ _ inferInstance (by kernel_rfl) rfl N2s N2o _ rfl ?_; simp only [setRow_new_tc, setRow_alloc_tc, setRow_drew_tc, setRow_ext])
              | (go_at_call 13; with_reducible refine (wakes12 _).mono ?_; rintro e w' ⟨rfl, z, rfl⟩; simp only [])
              | go_values | go_skip | go_guarded | go_step | go_upon | go_step3)
            go_ret
            exact ⟨rfl, ((HU6.out.alloc _).ext _).to⟩
        · have hn' : 16 ≤ X / 512 := by omega
          repeat (first
          | (go_at_call 16; with_reducible refine (word_any true a p l fr H0.out _ _ HWV.out 0 HCK.out).mono ?_; rintro e w' ⟨rfl, y, rfl⟩; simp only [])
          | (go_at_call 25; with_reducible refine (mread_bad (HM.out.below (ext_below _ _)) X HXB.out hn').mono ?_; rintro e w' ⟨rfl, y, rfl⟩; simp only [ext_ext'])
          | (go_at_call 13; with_reducible refine (wakes12 _).mono ?_; rintro e w' ⟨rfl, z, rfl⟩; simp only [])
          | go_values | go_skip | go_guarded | go_step | go_upon | go_step3)
          go_ret
          exact ⟨rfl, ((HUP.out.ext _).ext _).to⟩
      · have hR := HR.out
        have hlq : LtW q wr := ⟨row_lt hR.row⟩
        have HUP : Hid (Up w.heap.size w wr) := Lib.hid ⟨HU3.out.below.trans (HC.out.below (fun k e => e ▸ HQ.out.1) HU3.out.le), Nat.le_trans HU3.out.le HC.out.size⟩
        by_cases h4 : i < 4
        · repeat (first
          | (go_at_call 13; with_reducible refine (wakes12 _).mono ?_; rintro e w' ⟨rfl, z, rfl⟩; simp only [])
          | go_values | go_skip | go_guarded | go_step | go_upon | go_step3)
          go_ret
          exact ⟨rfl, (HUP.out.ext _).to⟩
        · have h4' : 4 ≤ i := by omega
          repeat (first
          | (go_at_call 13; with_reducible refine (wakes12 _).mono ?_; rintro e w' ⟨rfl, z, rfl⟩; simp only [])
          | go_values | go_skip | go_guarded | go_step | go_upon | go_step3)
          go_ret
          exact ⟨rfl, (HUP.out.ext _).to⟩
end Go.Proofs.Ytcjklghjnbhcdaa
