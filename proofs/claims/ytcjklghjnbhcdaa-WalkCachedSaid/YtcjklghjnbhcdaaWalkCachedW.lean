/- WalkCached walks to true. -/
import Derived.Test.YtcjklghjnbhcdaaWKept
import Derived.Test.YtcjklghjnbhcdaaWBoth
namespace Go.Proofs.Ytcjklghjnbhcdaa
open Go.RowKit

theorem tmod_in (x m : Int) (m0 : 0 < m) (m1 : m < 1000) : ∃ X, (wrap64 (x.tmod m + m)).tmod m = X ∧ 0 ≤ X ∧ X < m := by
  have h1 := Int.tmod_lt_of_pos x (b := m) m0
  have h2 : -m < x.tmod m := by
    have := Int.lt_tmod_of_pos x (b := m) m0
    omega
  have e : wrap64 (x.tmod m + m) = x.tmod m + m := by unfold wrap64; omega
  rw [e, Int.tmod_eq_emod_of_nonneg (by omega)]
  exact ⟨_, rfl, Int.emod_nonneg _ (by omega), Int.emod_lt_of_pos _ m0⟩

theorem walk_read {m : Nat → Nat} {n : Nat} {a p : Int} : ∀ (k : Nat) (l f : Int) (C : Array Value) (c : Int), walkGo m n a p k l f = some (C, c) → C.size = 20 ∧ C.all (·.oneCell') = true ∧ ReadC C
  | 0, _, _, _, _, h => by simp [walkGo] at h
  | k + 1, l, f, C, c, h => by
    rw [walkGo] at h
    split at h
    · split at h
      · exact walk_read k _ _ _ _ h
      · simp only [Option.some.injEq, Prod.mk.injEq] at h
        rw [← h.1]
        exact ⟨nextC_size _ _ _ _ _ _, nextC_one _ _ _ _ _ _, nextC_read _ _ _ _ _ _⟩
    · cases h
theorem begin_cached {m : Nat → Nat} {a p q root : Int} {l : List S} (h : Steps m 16 a q root 3 l) (hb : beginOk root a p []) (q0 : 0 ≤ q) (q1 : q < 34359738368) :
    ∃ lv f, 0 ≤ lv ∧ lv ≤ 3 ∧ 0 ≤ f ∧ f < 64 ∧ beginC root a p l = walkOn a p lv f ∧ beginE root a p l = 0 ∧ walkGo m 16 a p (4 - lv).toNat lv f = walkGo m 16 a p 4 0 root := by
  obtain ⟨h1, h2, _⟩ := hb
  obtain ⟨_, _, _, r0, r1, a1, a2, _⟩ := chk_zero h2
  have hc := h.chk (Nat.le_refl _) a1 a2 q0 q1 r0 r1
  have hok : beginOk root a p l := ⟨h1, h2, hc⟩
  by_cases hbest : 0 < (bestR a p l).l
  · obtain ⟨g1, g2, g3, g4, g5⟩ := cached_same h (Nat.le_refl _) hbest hc r0 r1
    exact ⟨_, _, by omega, g2, g3, g4, by rw [beginC, if_pos hok, if_pos hbest], by rw [beginE, if_pos hok], g5.symm⟩
  · exact ⟨0, root, by omega, by omega, r0, r1, by rw [beginC, if_pos hok, if_neg hbest], by rw [beginE, if_pos hok], rfl⟩

set_option maxRecDepth 100000 in
set_option maxHeartbeats 4000000 in
theorem WalkCached_walk (w : World) (ls : List W2) (v : Value) (root0 asid page other bt : Int) (hv : Wrs w v ls) (_ : (Lit.int .i64 root0).wf = true) (_ : (Lit.int .i64 asid).wf = true) (wp : (Lit.int .u64 page).wf = true) (wo : (Lit.int .u64 other).wf = true) (_ : (Lit.int .i64 bt).wf = true) :
    Calls Try.prog 6 #[v, .int .i64 root0, .int .i64 asid, .int .u64 page, .int .u64 other, .int .i64 bt] w fun e w' => e = .returned (.bool true) ∧ ∃ x, w' = ext w x := by
  obtain ⟨p0, p2⟩ := bd_u64 wp
  obtain ⟨o0, o2⟩ := bd_u64 wo
  obtain ⟨ad, cap, hs, hr⟩ := hv
  have HV : Hid (Wrs w v ls) := Lib.hid ⟨ad, cap, hs, hr⟩
  clear hr wp wo
  by_cases hl : 300 < ls.length
  · have hlz : (300 : Int) < (ls.length : Int) := by omega
    subst hs
    clear HV
    go_enter Try.func6, Try.ntmps6
    go_wp2_with (go_at_call 13; with_reducible refine (wakes12 _).mono ?_; rintro e w' ⟨rfl, z, rfl⟩)
    go_ret
    exact ⟨rfl, up_to⟩
  · have hlz : (ls.length : Int) ≤ 300 := by omega
    have HL := Lib.hid (show ls.length ≤ 300 by omega)
    subst hs
    clear hl
    obtain ⟨R, hR, R0, R1⟩ := tmod_in root0 15 (by decide) (by decide)
    obtain ⟨A, hA, A0, A1⟩ := tmod_in asid 255 (by decide) (by decide)
    obtain ⟨p, hp, q0, q1⟩ : ∃ p, page % 34359738368 = p ∧ 0 ≤ p ∧ p < 34359738368 := ⟨_, rfl, by omega, by omega⟩
    obtain ⟨q, hq, k0, k1⟩ : ∃ q, other % 34359738368 = q ∧ 0 ≤ q ∧ q < 34359738368 := ⟨_, rfl, by omega, by omega⟩
    have hb : beginOk (1 + R) (1 + A) p [] := ⟨by omega, by unfold chkW; rw [if_pos ⟨rfl, by omega, by omega, by omega, by omega, by omega, by omega, by omega⟩], chk_nil⟩
    have hbq : beginOk (1 + R) (1 + A) q [] := ⟨by omega, by unfold chkW; rw [if_pos ⟨rfl, by omega, by omega, by omega, by omega, by omega, by omega, by omega⟩], chk_nil⟩
    have HB := Lib.hid hb; have HBQ := Lib.hid hbq; have H0 := Lib.hid q0; have HK0 := Lib.hid k0; have HK1 := Lib.hid k1
    clear hb hbq
    go_enter Try.func6, Try.ntmps6
    go_wp2_with (go_at_call 22; refine (both_any ls _ _ HV.out HL.out).mono ?_; rintro e w1 ⟨b, rb, rfl, h1⟩; have H1 := Lib.hid h1; clear h1)
    obtain ⟨F, G, D, m, frs, rl, hM, _, _, hF, _, hU⟩ := H1.out
    clear H1 HV
    refine (kept_any hM (1 + R) (1 + A) q bt HK0.out HBQ.out).mono ?_
    rintro e w2 ⟨cv, L, rfl, hS, hHas, z2, e2⟩
    have HM2 : Hid (MemAt F w2 b 16 (memOf ls) ls.length m D frs) := Lib.hid (hM.below (by rw [e2]; exact ext_below _ _))
    have HU2 : Hid (Up w.heap.size w w2) := Lib.hid (by rw [e2]; exact hU.ext _)
    have HF : Hid (∀ i, F i → w.heap.size ≤ i) := Lib.hid hF
    have HS := Lib.hid hS; have HHAS := Lib.hid hHas
    clear hM hF hU e2 hR hA hS hHas k0 k1 q0 q1 o0 o2 p0 p2 R0 R1 A0 A1
    generalize 1 + A = a at *
    generalize 1 + R = root at *
    obtain ⟨Q, hQ⟩ : ∃ Q, walkGo (memOf ls) 16 a p 4 0 root = Q := ⟨_, rfl⟩
    cases Q with
    | none =>
      have HQ := Lib.hid hQ
      clear hQ
      have hz1 : (zero20.all fun x => x.oneCell') = true := by simp [zero20, Value.oneCell']
      simp only []
      repeat (first
        | (go_at_call 24; with_reducible refine (all_any (HM2.out.below up_below) root a p H0.out HB.out none HQ.out).mono ?_; rintro e w' ⟨rfl, z, rfl⟩; simp only [allV])
        | (with_reducible refine at_op (.store 58 (.tmp 17) (.tmp 70)) rfl ?_; intro _; refine step_store20 58 (.tmp 17) (.tmp 70) rfl _ _ rfl rfl _ _ inferInstance (by kernel_rfl) rfl rfl hz1 _ rfl ?_; simp only [setRow_new_tc])
        | (go_at_call 13; with_reducible refine (wakes12 _).mono ?_; rintro e w' ⟨rfl, z, rfl⟩; simp only [])
        | go_values | go_skip | go_guarded | go_step | go_upon | go_step3)
      go_ret
      exact ⟨rfl, (((HU2.out.ext _).alloc _).ext _).to⟩
    | some Ck =>
      obtain ⟨C, k⟩ := Ck
      obtain ⟨hCs, hC1, hCr⟩ := walk_read _ _ _ _ _ hQ
      obtain ⟨k4, _⟩ := walk_four _ _ _ _ _ hQ
      have k4' : k ≤ 4 := by omega
      obtain ⟨lb, fb, lb0, lb3, fb0, fb1, hbC, hbE, hgo⟩ := begin_cached HS.out HB.out HK0.out HK1.out
      rw [hQ] at hgo
      obtain ⟨b0, i1, i2, i3, i4, b5, i6, i7, i8, i9, b10, i11, i12, i13, b14, b15, i16, i17, b18, i19, n0, n1, n2, n3, n4, n5, n6, n7, n8, n9, n10, n11, n12, n13, n14, n15, n16, n17, n18, n19⟩ := hCr.cells
      have HQ := Lib.hid hQ; have HBC := Lib.hid hbC; have HBE := Lib.hid hbE; have HGO := Lib.hid hgo
      clear hQ hbC hbE hgo k4 hCr
      simp only []
      repeat (first
        | (go_at_call 24; with_reducible refine (all_any (HM2.out.below up_below) root a p H0.out HB.out (some (C, k)) HQ.out).mono ?_
           rintro e w3 ⟨rfl, z, e3⟩
           have HM3 : Hid (MemAt F w3 b 16 (memOf ls) ls.length m D frs) := Lib.hid (HM2.out.below (by rw [e3]; exact ext_below _ _))
           have HU3 : Hid (Up w.heap.size w w3) := Lib.hid (by rw [e3]; exact HU2.out.ext _)
           have HH3 : Hid (Has S.enc w3 cv L) := Lib.hid (HHAS.out.below (by rw [e3]; exact ext_below _ _))
           clear e3; simp only [allV])
        | (go_at_call 14; with_reducible refine (begin_any root a p L cv _ (HH3.out.below up_below)).mono ?_
           rintro e w4 ⟨e1, z, e4⟩
           rw [HBC.out, HBE.out] at e1
           have HM4 : Hid (MemAt F w4 b 16 (memOf ls) ls.length m D frs) := Lib.hid ((HM3.out.below (W' := w3.alloc (.cells C 58)) up_below).below (by rw [e4]; exact ext_below _ _))
           have HU4 : Hid (Up w.heap.size w w4) := Lib.hid (by rw [e4]; exact (HU3.out.alloc _).ext _)
           have hR4 : RowW w3.heap.size w4 C 58 := (by subst e4; infer_instance)
           subst e1; clear e4; simp only [])
        | (with_reducible refine at_op (.store 58 (.tmp 17) (.tmp 70)) rfl ?_; intro _; refine step_store20 58 (.tmp 17) (.tmp 70) rfl _ _ rfl rfl _ _ inferInstance (by kernel_rfl) rfl hCs hC1 _ rfl ?_; simp only [setRow_new_tc])
        | (go_at_call 13; with_reducible refine (wakes12 _).mono ?_; rintro e w' ⟨rfl, z, rfl⟩; simp only [])
        | go_values | go_skip | go_guarded | go_step | go_upon | go_step3)
      clear hp hq
      have HC3 : Hid (RowW w4.heap.size (w4.alloc (.cells (walkOn a p lb fb) 39)) (walkOn a p lb fb) 39) := Lib.hid inferInstance
      have HR3 : Hid (RowW w3.heap.size (w4.alloc (.cells (walkOn a p lb fb) 39)) C 58) := Lib.hid inferInstance
      have HU5 : Hid (Up w.heap.size w (w4.alloc (.cells (walkOn a p lb fb) 39))) := Lib.hid (HU4.out.alloc _)
      have HM5 : Hid (MemAt F (w4.alloc (.cells (walkOn a p lb fb) 39)) b 16 (memOf ls) ls.length m D frs) := Lib.hid (HM4.out.below up_below)
      have hlt34 : w3.heap.size < w4.heap.size := row_lt hR4.row
      have HQ5 : Hid (w.heap.size ≤ w4.heap.size ∧ ∀ i, F i → i < w4.heap.size) := Lib.hid ⟨HU4.out.le, HM4.out.fl⟩
      clear HU4 HM4 HM3 HU3 HH3 hR4
      generalize w3.heap.size = g3 at *
      generalize w4.heap.size = g at *
      generalize w4.alloc _ = w5 at *
      go_loopw [22] (fun kk wr => ∃ i l f0 : Int, 0 ≤ i ∧ i ≤ l ∧ l ≤ 3 ∧ 0 ≤ f0 ∧ f0 < 64 ∧ kk = .int .i64 i ∧ Hid (walkGo (memOf ls) 16 a p (4 - l).toNat l f0 = some (C, k)) ∧ Hid (RowW g wr (walkOn a p l f0) 39) ∧ Hid (Chg (fun i => i = g) w5 wr)) (fun kk _ => (5 - intOf kk).toNat)
      case atStart => exact ⟨0, lb, fb, by omega, lb0, lb3, fb0, fb1, rfl, HGO, HC3, Lib.hid (Chg.refl _ _)⟩
      case round =>
        clear HC3 HGO
        obtain ⟨i, l, fr, i0, il, l3, f0, f1, rfl, HG, HR, HC⟩ := hrel
        have l0 : 0 ≤ l := by omega
        have hck : chkW true a p l fr = 0 := by
          obtain ⟨_, hb2, _⟩ := HB.out
          obtain ⟨_, _, _, _, _, q1, q2, q3⟩ := chk_zero hb2
          unfold chkW; rw [if_pos ⟨rfl, l0, l3, f0, f1, q1, q2, q3⟩]
        have HCK := Lib.hid hck
        obtain ⟨x0, x1⟩ := index_bounds p l H0.out
        obtain ⟨X, hX⟩ : ∃ X, wordN p l fr = X := ⟨_, rfl⟩
        have hXv : wordV true a p l fr = (X : Int) := by rw [wordV, if_pos hck, ← hX]; unfold wordN; omega
        have hXb : X < 18446744073709551616 := by rw [← hX]; unfold wordN; omega
        have HWV := Lib.hid hXv; have HXB := Lib.hid hXb
        have hR := HR.out
        have hlq : LtW g wr := ⟨row_lt hR.row⟩
        have hn3 : NeW g3 g := ⟨Nat.ne_of_lt hlt34⟩
        have hn3' : NeW g g3 := ⟨(Nat.ne_of_lt hlt34).symm⟩
        have hR3 : RowW g3 wr C 58 := HR3.out.chg HC.out (fun e => by omega)
        have hl3 : LtW g3 wr := ⟨row_lt hR3.row⟩
        have HUP : Hid (Up w.heap.size w wr) := Lib.hid ⟨HU5.out.below.trans (HC.out.below (fun k e => e ▸ HQ5.out.1) HU5.out.le), Nat.le_trans HU5.out.le HC.out.size⟩
        have HM : Hid (MemAt F wr b 16 (memOf ls) ls.length m D frs) := Lib.hid (HM5.out.chg HC.out (fun i e hf => by have := HQ5.out.2 i hf; omega))
        have i4 : i < 4 := by omega
        obtain ⟨kk, hkk⟩ : ∃ kk, (4 - l).toNat = kk + 1 := ⟨(3 - l).toNat, by omega⟩
        have hgo := HG.out
        rw [hkk] at hgo
        unfold walkGo at hgo
        rw [hX] at hgo
        clear hX hXv hXb x0 x1 hck HG HR
        have hn : X / 512 < 16 := by
          by_cases h : X / 512 < 16
          · exact h
          · rw [if_neg h] at hgo; cases hgo
        rw [if_pos hn] at hgo
        obtain ⟨N, hN⟩ : ∃ N, nextC true a p l fr (memOf ls X) = N := ⟨_, rfl⟩
        have hNs := nextC_size true a p l fr (memOf ls X)
        have hN1 := nextC_one true a p l fr (memOf ls X)
        have HFX : Hid (memOf ls X < 18446744073709551616) := Lib.hid (HM.out.val X)
        by_cases hk : (decD (memOf ls X) l).kind = 1
        · rw [if_pos hk] at hgo
          obtain ⟨j0, j1, j2, j3, j4⟩ := nextC_go HCK.out hk
          obtain ⟨l2, g0, g1⟩ := kind_on l0 l3 hk
          generalize (decD (memOf ls X) l).frame = fr2 at *
          rw [hN] at j0 j1 j2 j3 j4 hNs hN1
          have m0 := get_of j0; have m1 := get_of j1; have m2 := get_of j2; have m3 := get_of j3; have m4 := get_of j4
          have HN := Lib.hid hN; have HGO := Lib.hid hgo; have HK := Lib.hid hkk
          clear hN hk hgo hkk n0 n1 n2 n3 n4 n5 n6 n7 n8 n9 n10 n11 n12 n13 n14 n15 n16 n17 n18 n19
          repeat (first
            | (go_at_call 16; with_reducible refine (word_any true a p l fr H0.out _ _ HWV.out 0 HCK.out).mono ?_; rintro e w' ⟨rfl, y, rfl⟩; simp only [])
            | (go_at_call 25; with_reducible refine (mread_any (HM.out.below (ext_below _ _)) X HXB.out hn).mono ?_; rintro e w' ⟨rfl, y, rfl⟩; simp only [ext_ext'])
            | (go_at_call 20; with_reducible refine (next_any true a p l fr H0.out (memOf ls X) HFX.out _).mono ?_; rintro e w' ⟨e1, y, rfl⟩; rw [HN.out, HCK.out] at e1; subst e1; simp only [ext_ext'])
            | (with_reducible refine at_op (.store 58 (.tmp 27) (.tmp 113)) rfl ?_; intro _; refine step_store20 58 (.tmp 27) (.tmp 113) rfl _ _ rfl rfl _ _ inferInstance (by kernel_rfl) rfl hNs hN1 _ rfl ?_; simp only [setRow_new_tc])
            | go_values | go_skip | go_guarded | go_step | go_upon | go_step3)
          go_roundw
          case rel => exact ⟨i + 1, l + 1, fr2, by omega, by omega, by omega, g0, g1, by go_num, by rw [show (4 - (l + 1)).toNat = kk by have := HK.out; omega]; exact HGO, Lib.hid inferInstance, Lib.hid (by (repeat (first | with_reducible exact HC.out | with_reducible apply Chg.drew | with_reducible apply Chg.alloc | with_reducible apply Chg.ext | with_reducible refine Chg.setRow ?_ _ _ (.inl rfl))))⟩
          case measure => simp [intOf]; omega
        · rw [if_neg hk] at hgo
          obtain ⟨j0, _⟩ := nextC_end HCK.out hk
          simp only [Option.some.injEq, Prod.mk.injEq] at hgo
          have hNC : nextC true a p l fr (memOf ls X) = C := hgo.1
          rw [hNC] at j0 hNs hN1 hN
          have hb0 : b0 = false := by
            have e1 := get_of j0 (by omega)
            rw [n0 (by omega)] at e1
            simpa using e1
          subst hb0
          have HN := Lib.hid hNC
          clear hN hk hgo hkk hNC j0
          repeat (first
            | (go_at_call 16; with_reducible refine (word_any true a p l fr H0.out _ _ HWV.out 0 HCK.out).mono ?_; rintro e w' ⟨rfl, y, rfl⟩; simp only [])
            | (go_at_call 25; with_reducible refine (mread_any (HM.out.below (ext_below _ _)) X HXB.out hn).mono ?_; rintro e w' ⟨rfl, y, rfl⟩; simp only [ext_ext'])
            | (go_at_call 20; with_reducible refine (next_any true a p l fr H0.out (memOf ls X) HFX.out _).mono ?_; rintro e w' ⟨e1, y, rfl⟩; rw [HN.out, HCK.out] at e1; subst e1; simp only [ext_ext'])
            | (with_reducible refine at_op (.store 58 (.tmp 27) (.tmp 113)) rfl ?_; intro _; refine step_store20 58 (.tmp 27) (.tmp 113) rfl _ _ rfl rfl _ _ inferInstance (by kernel_rfl) rfl hNs hN1 _ rfl ?_; simp only [setRow_new_tc])
            | (go_at_call 13; with_reducible refine (wakes12 _).mono ?_; rintro e w' ⟨rfl, z, rfl⟩; simp only [])
            | go_values | go_skip | go_guarded | go_step | go_upon | go_step3)
          go_ret
          exact ⟨rfl, (((HUP.out.ext _).alloc _).ext _).to⟩
end Go.Proofs.Ytcjklghjnbhcdaa
