/- The steps that a page's walk keeps, as the law makes them. -/
import Derived.Test.YtcjklghjnbhcdaaWCachedM
import Derived.Test.YtcjklghjnbhcdaaWMade
import Derived.Test.YtcjklghjnbhcdaaWWakes
import Derived.WalkMore
namespace Go.Proofs.Ytcjklghjnbhcdaa
open Go.RowKit

theorem Chg.setRow {F : Nat → Prop} {W W' : World} (h : Chg F W W') (g : Nat) (C : Array Value) (hb : F g ∨ W.heap.size ≤ g) : Chg F W (W'.setRow g C) := by
  refine ⟨h.os, h.tape, h.output, by simpa using h.size, fun k hk hn => ?_⟩
  unfold World.setRow
  simp only [Array.getElem?_modify]
  rw [if_neg (fun e => by
    rcases hb with hb | hb
    · exact hn (e ▸ hb)
    · omega)]
  exact h.block k hk hn
theorem RowW.chg {F : Nat → Prop} {W W' : World} {n : Nat} {c : Array Value} {t : TypeId} (h : RowW n W c t) (hC : Chg F W W') (hn : ¬ F n) : RowW n W' c t := ⟨(hC.block n (row_lt h.row) hn).trans h.row⟩
abbrev walkOff : Array Value := #[.bool false, .int .i64 0, .int .u64 0, .int .i8 0, .int .i64 0]
abbrev walkOn (a p l f : Int) : Array Value := #[.bool true, .int .i64 a, .int .u64 p, .int .i8 l, .int .i64 f]
theorem own_ge {α : Type} {enc : α → List Value} {W : World} {base : Nat} {v : Value} {l : List α} (h : Own enc W base v l) : ∀ g, v.ownBlock = some g → base ≤ g := by
  rcases h with ⟨rfl, _⟩ | ⟨g, o, cap, cur, t, rfl, h2, _⟩
  · intro g hg; cases hg
  · intro g' hg; cases hg; exact h2

theorem rkeep_to (l : List S) (v : Value) (xa xl xp xf : Int) (w : World) (hv : Has S.enc w v l) (hc : Chk mostS S.may S.same l) (hm : S.may ⟨xa, xl, xp, xf⟩ = true) :
    Calls Try.prog 50 #[v, .agg #[.int .i64 xa, .int .i8 xl, .int .u64 xp, .int .i64 xf]] w fun e w' => ∃ v' y, e = .returned (.tuple #[v', .int .i64 0]) ∧ w' = ext w y ∧ Own S.enc (ext w y) w.heap.size v' (fillL mostS S.same l ⟨xa, xl, xp, xf⟩) :=
  rkeep_yes l v ⟨xa, xl, xp, xf⟩ w hv hc hm

section
variable {F : Nat → Prop} {W : World} {b c m : Nat} {f : Nat → Nat} {D : DataW Unit} {frs : Nat → Option Nat}
set_option maxRecDepth 100000 in
set_option maxHeartbeats 4000000 in
theorem kept_any (h : MemAt F W b 16 f c m D frs) (root a q bt : Int) (q0 : 0 ≤ q) (hb : beginOk root a q []) :
    Calls Try.prog 23 #[.pointer (some ⟨b, 0, none⟩), .int .i64 root, .int .i64 a, .int .u64 q, .int .i64 bt] W fun e w' =>
      ∃ v L, e = .returned (.tuple #[v, .bool true]) ∧ Steps f 16 a q root 3 L ∧ Has S.enc w' v L ∧ ∃ x, w' = ext W x := by
  obtain ⟨hC, hE⟩ := begin_nil_ok hb
  have HH := Lib.hid h; have HB := Lib.hid hb; have HC := Lib.hid hC; have HE := Lib.hid hE; have H0 := Lib.hid q0
  clear h hb hC hE q0
  go_enter Try.func23, Try.ntmps23
  go_wp2_with fail
  refine (begin_any root a q [] _ _ (has_nilS _)).mono ?_
  rintro e w2 ⟨e1, z, e2⟩
  rw [HC.out, HE.out] at e1
  subst e1
  have HU2 : Hid (Up W.heap.size W w2) := Lib.hid (by rw [e2]; exact (Up.refl W).ext _)
  clear e2 HC HE
  obtain ⟨_, c2, _⟩ := HB.out
  obtain ⟨_, _, _, r0, r1, a1, a2, p1⟩ := chk_zero c2
  have HP : Hid (1 ≤ a ∧ a ≤ 255 ∧ q < 34359738368) := Lib.hid ⟨a1, a2, p1⟩
  have HRT : Hid (0 ≤ root ∧ root < 64) := Lib.hid ⟨r0, r1⟩
  clear HB c2 a1 a2 p1
  go_wp2_with fail
  have HC3 : Hid (RowW w2.heap.size (w2.alloc (.cells (walkOn a q 0 root) 39)) (walkOn a q 0 root) 39) := Lib.hid inferInstance
  have HU3 : Hid (Up W.heap.size W (w2.alloc (.cells (walkOn a q 0 root) 39))) := Lib.hid (HU2.out.alloc _)
  have HM3 : Hid (MemAt F (w2.alloc (.cells (walkOn a q 0 root) 39)) b 16 f c m D frs) := Lib.hid ((HH.out.below HU2.out.below).below up_below)
  have HQ : Hid (W.heap.size ≤ w2.heap.size ∧ (∀ i, F i → i < w2.heap.size) ∧ w2.heap.size + 1 ≤ (w2.alloc (.cells (walkOn a q 0 root) 39)).heap.size) := Lib.hid ⟨HU2.out.le, fun i hi => Nat.lt_of_lt_of_le (HH.out.fl i hi) HU2.out.le, by simp⟩
  clear HU2 HH
  generalize w2.heap.size = g at *
  generalize w2.alloc _ = w3 at *
  go_loopw [14, 15] (fun o k wr => ∃ L, Hid (Own S.enc wr (g + 1) o L) ∧ Hid (Chg (fun i => i = g) w3 wr) ∧ ((∃ (n : Nat) (f0 : Int), n ≤ 3 ∧ k = .int .i64 (n : Int) ∧ Hid (pathF f 16 q root n = some f0) ∧ Hid (Steps f 16 a q root n L) ∧ Hid (RowW g wr (walkOn a q n f0) 39)) ∨
    (∃ i : Int, 1 ≤ i ∧ i ≤ 4 ∧ k = .int .i64 i ∧ Hid (Steps f 16 a q root 3 L) ∧ Hid (RowW g wr walkOff 39)))) (fun _ k _ => (5 - intOf k).toNat)
  case atStart => exact ⟨[], Lib.hid (.inl ⟨rfl, rfl⟩), Lib.hid (Chg.refl _ _), .inl ⟨0, root, by omega, rfl, Lib.hid rfl, Lib.hid (Steps.nil _ _ _ _ _), HC3⟩⟩
  case round =>
    clear HC3 r0 r1
    obtain ⟨L, HO, HC, ⟨n, fr, n3, rfl, HPF, HS, HR⟩ | ⟨i, i1, i4, rfl, HS, HR⟩⟩ := hrel
    · obtain ⟨l, hl⟩ : ∃ l : Int, (n : Int) = l := ⟨_, rfl⟩
      rw [hl] at HR
      obtain ⟨f0, f1⟩ := path_frame HRT.out.1 HRT.out.2 n n3 _ HPF.out
      have l0 : 0 ≤ l := by omega
      have l3 : l ≤ 3 := by omega
      have hck : chkW true a q l fr = 0 := by obtain ⟨q1, q2, q3⟩ := HP.out; unfold chkW; rw [if_pos ⟨rfl, l0, l3, f0, f1, q1, q2, q3⟩]
      have HCK := Lib.hid hck
      obtain ⟨i0, i1⟩ := index_bounds q l H0.out
      obtain ⟨X, hX⟩ : ∃ X, wordN q l fr = X := ⟨_, rfl⟩
      have hXv : wordV true a q l fr = (X : Int) := by rw [wordV, if_pos hck, ← hX]; unfold wordN; omega
      have hXb : X < 18446744073709551616 := by rw [← hX]; unfold wordN; omega
      have HWV := Lib.hid hXv; have HXB := Lib.hid hXb; have HXE := Lib.hid hX
      have hR := HR.out
      have hlq : LtW g wr := ⟨row_lt hR.row⟩
      have HUP : Hid (Up W.heap.size W wr) := Lib.hid ⟨HU3.out.below.trans (HC.out.below (fun k e => e ▸ HQ.out.1) HU3.out.le), Nat.le_trans HU3.out.le HC.out.size⟩
      have HM : Hid (MemAt F wr b 16 f c m D frs) := Lib.hid (HM3.out.chg HC.out (fun i e hf => by have := HQ.out.2.1 i hf; omega))
      have l5 : l < 5 := by omega
      clear hX hXv hXb i0 i1 hck HR
      by_cases hn : X / 512 < 16
      · obtain ⟨N, hN⟩ : ∃ N, nextC true a q l fr (f X) = N := ⟨_, rfl⟩
        have hNs := nextC_size true a q l fr (f X)
        have hN1 := nextC_one true a q l fr (f X)
        have HFX : Hid (f X < 18446744073709551616) := Lib.hid (HM.out.val X)
        rw [hN] at hNs hN1
        have HN := Lib.hid hN
        by_cases hk : (decD (f X) l).kind = 1
        · obtain ⟨l2, g0, g1⟩ := kind_on l0 l3 hk
          have hO : N = on20 true a q (l + 1) (decD (f X) l).frame (prefixV q (l + 1)) := by rw [← hN]; unfold nextC; rw [if_neg (by have := HCK.out; omega), if_pos hk]
          have hpf : pathF f 16 q root (n + 1) = some (decD (f X) l).frame := by
            have e1 : wordN q (n : Int) fr = X := by rw [hl]; exact HXE.out
            have := pathF_succ HPF.out (by rw [e1]; exact hn) (by rw [e1, hl]; exact hk)
            rw [this, e1, hl]
          generalize (decD (f X) l).frame = fr2 at *
          obtain ⟨pp, hpp⟩ : ∃ pp, prefixV q (l + 1) = pp := ⟨_, rfl⟩
          rw [hpp] at hO
          have m0 := get_of (N := N) (i := 0) (v := .bool true) (by rw [hO]; rfl)
          have m1 := get_of (N := N) (i := 1) (v := .int .i64 a) (by rw [hO]; rfl)
          have m2 := get_of (N := N) (i := 2) (v := .int .u64 q) (by rw [hO]; rfl)
          have m3 := get_of (N := N) (i := 3) (v := .int .i8 (l + 1)) (by rw [hO]; rfl)
          have m4 := get_of (N := N) (i := 4) (v := .int .i64 fr2) (by rw [hO]; rfl)
          have m5 := get_of (N := N) (i := 5) (v := .bool true) (by rw [hO]; rfl)
          have m6 := get_of (N := N) (i := 6) (v := .int .i64 a) (by rw [hO]; rfl)
          have m7 := get_of (N := N) (i := 7) (v := .int .i8 (l + 1)) (by rw [hO]; rfl)
          have m8 := get_of (N := N) (i := 8) (v := .int .u64 pp) (by rw [hO]; rfl)
          have m9 := get_of (N := N) (i := 9) (v := .int .i64 fr2) (by rw [hO]; rfl)
          have HPP := Lib.hid hpp; have HPF2 := Lib.hid hpf
          clear hN hO hk hpp hpf
          rw [hl]
          rcases (by omega : l = 0 ∨ l = 1 ∨ l = 2) with rfl | rfl | rfl
          · have HN1 : Hid (n = 0) := Lib.hid (by omega)
            cases hbb : (bits .and .i64 bt 1 == 1)
            · repeat (first
                | (go_at_call 16; with_reducible refine (word_any true a q 0 fr H0.out _ _ HWV.out 0 HCK.out).mono ?_; rintro e w' ⟨rfl, y, rfl⟩; simp only [])
                | (go_at_call 25; with_reducible refine (mread_any (HM.out.below (ext_below _ _)) X HXB.out hn).mono ?_; rintro e w' ⟨rfl, y, rfl⟩; simp only [ext_ext'])
                | (go_at_call 20; with_reducible refine (next_any true a q 0 fr H0.out (f X) HFX.out _).mono ?_; rintro e w' ⟨e1, y, rfl⟩; rw [HN.out, HCK.out] at e1; subst e1; simp only [ext_ext'])
                | (with_reducible refine at_op (.store 58 (.tmp 20) (.tmp 61)) rfl ?_; intro _; refine step_store20 58 (.tmp 20) (.tmp 61) rfl _ _ rfl rfl _ _ inferInstance (by kernel_rfl) rfl hNs hN1 _ rfl ?_; simp only [setRow_new_tc])
                | go_values | go_skip | go_guarded | go_step | go_upon | go_step3)
              go_roundw
              case rel => exact ⟨L, Lib.hid (HO.out.chg ((by (repeat (first | with_reducible exact Chg.refl _ _ | with_reducible apply Chg.drew | with_reducible apply Chg.alloc | with_reducible apply Chg.ext | with_reducible refine Chg.setRow ?_ _ _ (.inl rfl)))) : Chg (fun i => i = g) wr _) (fun k hk e => by have := own_ge HO.out k hk; omega)), Lib.hid (by (repeat (first | with_reducible exact HC.out | with_reducible apply Chg.drew | with_reducible apply Chg.alloc | with_reducible apply Chg.ext | with_reducible refine Chg.setRow ?_ _ _ (.inl rfl)))), .inl ⟨n + 1, fr2, by omega, by rw [HN1.out]; rfl, HPF2, Lib.hid HS.out.mono, by rw [HN1.out]; exact Lib.hid inferInstance⟩⟩
              case measure => simp [intOf]
            · have HCH : Hid (Chk mostS S.may S.same L) := Lib.hid (HS.out.chk n3 HP.out.1 HP.out.2.1 H0.out HP.out.2.2 HRT.out.1 HRT.out.2)
              have HS2 : Hid (Steps f 16 a q root (n + 1) (L ++ [⟨a, 1, pp, fr2⟩])) := Lib.hid (HS.out.snoc ⟨a, 1, pp, fr2⟩ rfl (by rw [HN1.out]; rfl) HPP.out.symm HPF2.out)
              have HFILL : Hid (fillL mostS S.same L ⟨a, 1, pp, fr2⟩ = L ++ [⟨a, 1, pp, fr2⟩]) := Lib.hid (HS.out.fill (by rw [HN1.out]; decide) _ (by rw [HN1.out]; rfl))
              have HMAY : Hid (S.may ⟨a, 1, pp, fr2⟩ = true) := Lib.hid ((HS2.out.chk (by rw [HN1.out]; decide) HP.out.1 HP.out.2.1 H0.out HP.out.2.2 HRT.out.1 HRT.out.2).2 L.length _ (by simp)).1
              repeat (first
                | (go_at_call 16; with_reducible refine (word_any true a q 0 fr H0.out _ _ HWV.out 0 HCK.out).mono ?_; rintro e w' ⟨rfl, y, rfl⟩; simp only [])
                | (go_at_call 25; with_reducible refine (mread_any (HM.out.below (ext_below _ _)) X HXB.out hn).mono ?_; rintro e w' ⟨rfl, y, rfl⟩; simp only [ext_ext'])
                | (go_at_call 20; with_reducible refine (next_any true a q 0 fr H0.out (f X) HFX.out _).mono ?_
                   rintro e w4 ⟨e1, y, e4⟩
                   rw [HN.out, HCK.out] at e1
                   have HO4 : Hid (Own S.enc w4 (g + 1) u14 L) := Lib.hid ((HO.out.ext _).below (by rw [e4]; exact ext_below _ _))
                   have HC4 : Hid (Chg (fun i => i = g) w3 w4) := Lib.hid (by rw [e4]; exact (HC.out.ext _).ext _)
                   have hq4 : LtW g w4 := (by subst e4; infer_instance)
                   have hR4 : RowW g w4 (walkOn a q 0 fr) 39 := (by subst e4; infer_instance)
                   subst e1; clear e4; simp only [])
                | (go_at_call 50; with_reducible refine (rkeep_to L u14 a 1 pp fr2 _ (HO4.out.below up_below).has HCH.out HMAY.out).mono ?_
                   rintro e w7 ⟨v', y, e1, e7, hO7⟩
                   rw [HFILL.out] at hO7
                   rw [← e7] at hO7
                   have HO7 : Hid (Own S.enc w7 (g + 1) v' (L ++ [⟨a, 1, pp, fr2⟩])) := Lib.hid (hO7.mono (by have := hq4.lt; simp; omega))
                   have HC7 : Hid (Chg (fun i => i = g) w3 w7) := Lib.hid (by rw [e7]; exact (HC4.out.alloc _).ext _)
                   have hq7 : LtW g w7 := (by subst e7; infer_instance)
                   have hl7 : LtW w4.heap.size w7 := (by subst e7; infer_instance)
                   have hR7 : RowW g w7 (walkOn a q 0 fr) 39 := (by subst e7; infer_instance)
                   have hg7 : RowW w4.heap.size w7 N 58 := (by subst e7; infer_instance)
                   have hn7 : NeW g w4.heap.size := ⟨Nat.ne_of_lt hq4.lt⟩
                   have hn7' : NeW w4.heap.size g := ⟨(Nat.ne_of_lt hq4.lt).symm⟩
                   subst e1; clear e7 hO7; simp only [])
                | (with_reducible refine at_op (.store 58 (.tmp 20) (.tmp 61)) rfl ?_; intro _; refine step_store20 58 (.tmp 20) (.tmp 61) rfl _ _ rfl rfl _ _ inferInstance (by kernel_rfl) rfl hNs hN1 _ rfl ?_; simp only [setRow_new_tc])
                | go_values | go_skip | go_guarded | go_step | go_upon | go_step3)
              go_roundw
              case rel => exact ⟨_, Lib.hid (HO7.out.chg ((by (repeat (first | with_reducible exact Chg.refl _ _ | with_reducible apply Chg.drew | with_reducible apply Chg.alloc | with_reducible apply Chg.ext | with_reducible refine Chg.setRow ?_ _ _ (.inl rfl)))) : Chg (fun i => i = g) w7 _) (fun k hk e => by have := own_ge HO7.out k hk; omega)), Lib.hid (by (repeat (first | with_reducible exact HC7.out | with_reducible apply Chg.drew | with_reducible apply Chg.alloc | with_reducible apply Chg.ext | with_reducible refine Chg.setRow ?_ _ _ (.inl rfl)))), .inl ⟨n + 1, fr2, by omega, by rw [HN1.out]; rfl, HPF2, HS2, by rw [HN1.out]; exact Lib.hid inferInstance⟩⟩
              case measure => simp [intOf]
          · have HN1 : Hid (n = 1) := Lib.hid (by omega)
            cases hbb : (bits .and .i64 (bt / 2) 1 == 1)
            · repeat (first
                | (go_at_call 16; with_reducible refine (word_any true a q 1 fr H0.out _ _ HWV.out 0 HCK.out).mono ?_; rintro e w' ⟨rfl, y, rfl⟩; simp only [])
                | (go_at_call 25; with_reducible refine (mread_any (HM.out.below (ext_below _ _)) X HXB.out hn).mono ?_; rintro e w' ⟨rfl, y, rfl⟩; simp only [ext_ext'])
                | (go_at_call 20; with_reducible refine (next_any true a q 1 fr H0.out (f X) HFX.out _).mono ?_; rintro e w' ⟨e1, y, rfl⟩; rw [HN.out, HCK.out] at e1; subst e1; simp only [ext_ext'])
                | (with_reducible refine at_op (.store 58 (.tmp 20) (.tmp 61)) rfl ?_; intro _; refine step_store20 58 (.tmp 20) (.tmp 61) rfl _ _ rfl rfl _ _ inferInstance (by kernel_rfl) rfl hNs hN1 _ rfl ?_; simp only [setRow_new_tc])
                | go_values | go_skip | go_guarded | go_step | go_upon | go_step3)
              go_roundw
              case rel => exact ⟨L, Lib.hid (HO.out.chg ((by (repeat (first | with_reducible exact Chg.refl _ _ | with_reducible apply Chg.drew | with_reducible apply Chg.alloc | with_reducible apply Chg.ext | with_reducible refine Chg.setRow ?_ _ _ (.inl rfl)))) : Chg (fun i => i = g) wr _) (fun k hk e => by have := own_ge HO.out k hk; omega)), Lib.hid (by (repeat (first | with_reducible exact HC.out | with_reducible apply Chg.drew | with_reducible apply Chg.alloc | with_reducible apply Chg.ext | with_reducible refine Chg.setRow ?_ _ _ (.inl rfl)))), .inl ⟨n + 1, fr2, by omega, by rw [HN1.out]; rfl, HPF2, Lib.hid HS.out.mono, by rw [HN1.out]; exact Lib.hid inferInstance⟩⟩
              case measure => simp [intOf]
            · have HCH : Hid (Chk mostS S.may S.same L) := Lib.hid (HS.out.chk n3 HP.out.1 HP.out.2.1 H0.out HP.out.2.2 HRT.out.1 HRT.out.2)
              have HS2 : Hid (Steps f 16 a q root (n + 1) (L ++ [⟨a, 2, pp, fr2⟩])) := Lib.hid (HS.out.snoc ⟨a, 2, pp, fr2⟩ rfl (by rw [HN1.out]; rfl) HPP.out.symm HPF2.out)
              have HFILL : Hid (fillL mostS S.same L ⟨a, 2, pp, fr2⟩ = L ++ [⟨a, 2, pp, fr2⟩]) := Lib.hid (HS.out.fill (by rw [HN1.out]; decide) _ (by rw [HN1.out]; rfl))
              have HMAY : Hid (S.may ⟨a, 2, pp, fr2⟩ = true) := Lib.hid ((HS2.out.chk (by rw [HN1.out]; decide) HP.out.1 HP.out.2.1 H0.out HP.out.2.2 HRT.out.1 HRT.out.2).2 L.length _ (by simp)).1
              repeat (first
                | (go_at_call 16; with_reducible refine (word_any true a q 1 fr H0.out _ _ HWV.out 0 HCK.out).mono ?_; rintro e w' ⟨rfl, y, rfl⟩; simp only [])
                | (go_at_call 25; with_reducible refine (mread_any (HM.out.below (ext_below _ _)) X HXB.out hn).mono ?_; rintro e w' ⟨rfl, y, rfl⟩; simp only [ext_ext'])
                | (go_at_call 20; with_reducible refine (next_any true a q 1 fr H0.out (f X) HFX.out _).mono ?_
                   rintro e w4 ⟨e1, y, e4⟩
                   rw [HN.out, HCK.out] at e1
                   have HO4 : Hid (Own S.enc w4 (g + 1) u14 L) := Lib.hid ((HO.out.ext _).below (by rw [e4]; exact ext_below _ _))
                   have HC4 : Hid (Chg (fun i => i = g) w3 w4) := Lib.hid (by rw [e4]; exact (HC.out.ext _).ext _)
                   have hq4 : LtW g w4 := (by subst e4; infer_instance)
                   have hR4 : RowW g w4 (walkOn a q 1 fr) 39 := (by subst e4; infer_instance)
                   subst e1; clear e4; simp only [])
                | (go_at_call 50; with_reducible refine (rkeep_to L u14 a 2 pp fr2 _ (HO4.out.below up_below).has HCH.out HMAY.out).mono ?_
                   rintro e w7 ⟨v', y, e1, e7, hO7⟩
                   rw [HFILL.out] at hO7
                   rw [← e7] at hO7
                   have HO7 : Hid (Own S.enc w7 (g + 1) v' (L ++ [⟨a, 2, pp, fr2⟩])) := Lib.hid (hO7.mono (by have := hq4.lt; simp; omega))
                   have HC7 : Hid (Chg (fun i => i = g) w3 w7) := Lib.hid (by rw [e7]; exact (HC4.out.alloc _).ext _)
                   have hq7 : LtW g w7 := (by subst e7; infer_instance)
                   have hl7 : LtW w4.heap.size w7 := (by subst e7; infer_instance)
                   have hR7 : RowW g w7 (walkOn a q 1 fr) 39 := (by subst e7; infer_instance)
                   have hg7 : RowW w4.heap.size w7 N 58 := (by subst e7; infer_instance)
                   have hn7 : NeW g w4.heap.size := ⟨Nat.ne_of_lt hq4.lt⟩
                   have hn7' : NeW w4.heap.size g := ⟨(Nat.ne_of_lt hq4.lt).symm⟩
                   subst e1; clear e7 hO7; simp only [])
                | (with_reducible refine at_op (.store 58 (.tmp 20) (.tmp 61)) rfl ?_; intro _; refine step_store20 58 (.tmp 20) (.tmp 61) rfl _ _ rfl rfl _ _ inferInstance (by kernel_rfl) rfl hNs hN1 _ rfl ?_; simp only [setRow_new_tc])
                | go_values | go_skip | go_guarded | go_step | go_upon | go_step3)
              go_roundw
              case rel => exact ⟨_, Lib.hid (HO7.out.chg ((by (repeat (first | with_reducible exact Chg.refl _ _ | with_reducible apply Chg.drew | with_reducible apply Chg.alloc | with_reducible apply Chg.ext | with_reducible refine Chg.setRow ?_ _ _ (.inl rfl)))) : Chg (fun i => i = g) w7 _) (fun k hk e => by have := own_ge HO7.out k hk; omega)), Lib.hid (by (repeat (first | with_reducible exact HC7.out | with_reducible apply Chg.drew | with_reducible apply Chg.alloc | with_reducible apply Chg.ext | with_reducible refine Chg.setRow ?_ _ _ (.inl rfl)))), .inl ⟨n + 1, fr2, by omega, by rw [HN1.out]; rfl, HPF2, HS2, by rw [HN1.out]; exact Lib.hid inferInstance⟩⟩
              case measure => simp [intOf]
          · have HN1 : Hid (n = 2) := Lib.hid (by omega)
            cases hbb : (bits .and .i64 (bt / 4) 1 == 1)
            · repeat (first
                | (go_at_call 16; with_reducible refine (word_any true a q 2 fr H0.out _ _ HWV.out 0 HCK.out).mono ?_; rintro e w' ⟨rfl, y, rfl⟩; simp only [])
                | (go_at_call 25; with_reducible refine (mread_any (HM.out.below (ext_below _ _)) X HXB.out hn).mono ?_; rintro e w' ⟨rfl, y, rfl⟩; simp only [ext_ext'])
                | (go_at_call 20; with_reducible refine (next_any true a q 2 fr H0.out (f X) HFX.out _).mono ?_; rintro e w' ⟨e1, y, rfl⟩; rw [HN.out, HCK.out] at e1; subst e1; simp only [ext_ext'])
                | (with_reducible refine at_op (.store 58 (.tmp 20) (.tmp 61)) rfl ?_; intro _; refine step_store20 58 (.tmp 20) (.tmp 61) rfl _ _ rfl rfl _ _ inferInstance (by kernel_rfl) rfl hNs hN1 _ rfl ?_; simp only [setRow_new_tc])
                | go_values | go_skip | go_guarded | go_step | go_upon | go_step3)
              go_roundw
              case rel => exact ⟨L, Lib.hid (HO.out.chg ((by (repeat (first | with_reducible exact Chg.refl _ _ | with_reducible apply Chg.drew | with_reducible apply Chg.alloc | with_reducible apply Chg.ext | with_reducible refine Chg.setRow ?_ _ _ (.inl rfl)))) : Chg (fun i => i = g) wr _) (fun k hk e => by have := own_ge HO.out k hk; omega)), Lib.hid (by (repeat (first | with_reducible exact HC.out | with_reducible apply Chg.drew | with_reducible apply Chg.alloc | with_reducible apply Chg.ext | with_reducible refine Chg.setRow ?_ _ _ (.inl rfl)))), .inl ⟨n + 1, fr2, by omega, by rw [HN1.out]; rfl, HPF2, Lib.hid HS.out.mono, by rw [HN1.out]; exact Lib.hid inferInstance⟩⟩
              case measure => simp [intOf]
            · have HCH : Hid (Chk mostS S.may S.same L) := Lib.hid (HS.out.chk n3 HP.out.1 HP.out.2.1 H0.out HP.out.2.2 HRT.out.1 HRT.out.2)
              have HS2 : Hid (Steps f 16 a q root (n + 1) (L ++ [⟨a, 3, pp, fr2⟩])) := Lib.hid (HS.out.snoc ⟨a, 3, pp, fr2⟩ rfl (by rw [HN1.out]; rfl) HPP.out.symm HPF2.out)
              have HFILL : Hid (fillL mostS S.same L ⟨a, 3, pp, fr2⟩ = L ++ [⟨a, 3, pp, fr2⟩]) := Lib.hid (HS.out.fill (by rw [HN1.out]; decide) _ (by rw [HN1.out]; rfl))
              have HMAY : Hid (S.may ⟨a, 3, pp, fr2⟩ = true) := Lib.hid ((HS2.out.chk (by rw [HN1.out]; decide) HP.out.1 HP.out.2.1 H0.out HP.out.2.2 HRT.out.1 HRT.out.2).2 L.length _ (by simp)).1
              repeat (first
                | (go_at_call 16; with_reducible refine (word_any true a q 2 fr H0.out _ _ HWV.out 0 HCK.out).mono ?_; rintro e w' ⟨rfl, y, rfl⟩; simp only [])
                | (go_at_call 25; with_reducible refine (mread_any (HM.out.below (ext_below _ _)) X HXB.out hn).mono ?_; rintro e w' ⟨rfl, y, rfl⟩; simp only [ext_ext'])
                | (go_at_call 20; with_reducible refine (next_any true a q 2 fr H0.out (f X) HFX.out _).mono ?_
                   rintro e w4 ⟨e1, y, e4⟩
                   rw [HN.out, HCK.out] at e1
                   have HO4 : Hid (Own S.enc w4 (g + 1) u14 L) := Lib.hid ((HO.out.ext _).below (by rw [e4]; exact ext_below _ _))
                   have HC4 : Hid (Chg (fun i => i = g) w3 w4) := Lib.hid (by rw [e4]; exact (HC.out.ext _).ext _)
                   have hq4 : LtW g w4 := (by subst e4; infer_instance)
                   have hR4 : RowW g w4 (walkOn a q 2 fr) 39 := (by subst e4; infer_instance)
                   subst e1; clear e4; simp only [])
                | (go_at_call 50; with_reducible refine (rkeep_to L u14 a 3 pp fr2 _ (HO4.out.below up_below).has HCH.out HMAY.out).mono ?_
                   rintro e w7 ⟨v', y, e1, e7, hO7⟩
                   rw [HFILL.out] at hO7
                   rw [← e7] at hO7
                   have HO7 : Hid (Own S.enc w7 (g + 1) v' (L ++ [⟨a, 3, pp, fr2⟩])) := Lib.hid (hO7.mono (by have := hq4.lt; simp; omega))
                   have HC7 : Hid (Chg (fun i => i = g) w3 w7) := Lib.hid (by rw [e7]; exact (HC4.out.alloc _).ext _)
                   have hq7 : LtW g w7 := (by subst e7; infer_instance)
                   have hl7 : LtW w4.heap.size w7 := (by subst e7; infer_instance)
                   have hR7 : RowW g w7 (walkOn a q 2 fr) 39 := (by subst e7; infer_instance)
                   have hg7 : RowW w4.heap.size w7 N 58 := (by subst e7; infer_instance)
                   have hn7 : NeW g w4.heap.size := ⟨Nat.ne_of_lt hq4.lt⟩
                   have hn7' : NeW w4.heap.size g := ⟨(Nat.ne_of_lt hq4.lt).symm⟩
                   subst e1; clear e7 hO7; simp only [])
                | (with_reducible refine at_op (.store 58 (.tmp 20) (.tmp 61)) rfl ?_; intro _; refine step_store20 58 (.tmp 20) (.tmp 61) rfl _ _ rfl rfl _ _ inferInstance (by kernel_rfl) rfl hNs hN1 _ rfl ?_; simp only [setRow_new_tc])
                | go_values | go_skip | go_guarded | go_step | go_upon | go_step3)
              go_roundw
              case rel => exact ⟨_, Lib.hid (HO7.out.chg ((by (repeat (first | with_reducible exact Chg.refl _ _ | with_reducible apply Chg.drew | with_reducible apply Chg.alloc | with_reducible apply Chg.ext | with_reducible refine Chg.setRow ?_ _ _ (.inl rfl)))) : Chg (fun i => i = g) w7 _) (fun k hk e => by have := own_ge HO7.out k hk; omega)), Lib.hid (by (repeat (first | with_reducible exact HC7.out | with_reducible apply Chg.drew | with_reducible apply Chg.alloc | with_reducible apply Chg.ext | with_reducible refine Chg.setRow ?_ _ _ (.inl rfl)))), .inl ⟨n + 1, fr2, by omega, by rw [HN1.out]; rfl, HPF2, HS2, by rw [HN1.out]; exact Lib.hid inferInstance⟩⟩
              case measure => simp [intOf]
        · obtain ⟨n0, n1, n2, n3', n4⟩ := nextC_end HCK.out hk
          have n5 : (nextC true a q l fr (f X))[5]? = some (.bool false) := by
            unfold nextC; rw [if_neg (by have := HCK.out; omega), if_neg hk]
            split <;> rfl
          rw [hN] at n0 n1 n2 n3' n4 n5
          have m0 := get_of n0; have m1 := get_of n1; have m2 := get_of n2; have m3 := get_of n3'; have m4 := get_of n4; have m5 := get_of n5
          clear hN hk
          have HSS : Hid (Steps f 16 a q root 3 L) := by
            rcases (by omega : n = 0 ∨ n = 1 ∨ n = 2 ∨ n = 3) with rfl | rfl | rfl | rfl
            · exact Lib.hid HS.out.mono.mono.mono
            · exact Lib.hid HS.out.mono.mono
            · exact Lib.hid HS.out.mono
            · exact HS
          rw [hl]
          repeat (first
            | (go_at_call 16; with_reducible refine (word_any true a q l fr H0.out _ _ HWV.out 0 HCK.out).mono ?_; rintro e w' ⟨rfl, y, rfl⟩; simp only [])
            | (go_at_call 25; with_reducible refine (mread_any (HM.out.below (ext_below _ _)) X HXB.out hn).mono ?_; rintro e w' ⟨rfl, y, rfl⟩; simp only [ext_ext'])
            | (go_at_call 20; with_reducible refine (next_any true a q l fr H0.out (f X) HFX.out _).mono ?_; rintro e w' ⟨e1, y, rfl⟩; rw [HN.out, HCK.out] at e1; subst e1; simp only [ext_ext'])
            | (with_reducible refine at_op (.store 58 (.tmp 20) (.tmp 61)) rfl ?_; intro _; refine step_store20 58 (.tmp 20) (.tmp 61) rfl _ _ rfl rfl _ _ inferInstance (by kernel_rfl) rfl hNs hN1 _ rfl ?_; simp only [setRow_new_tc])
            | go_values | go_skip | go_guarded | go_step | go_upon | go_step3)
          go_roundw
          case rel => exact ⟨L, Lib.hid (HO.out.chg ((by (repeat (first | with_reducible exact Chg.refl _ _ | with_reducible apply Chg.drew | with_reducible apply Chg.alloc | with_reducible apply Chg.ext | with_reducible refine Chg.setRow ?_ _ _ (.inl rfl)))) : Chg (fun i => i = g) wr _) (fun k hk e => by have := own_ge HO.out k hk; omega)), Lib.hid (by (repeat (first | with_reducible exact HC.out | with_reducible apply Chg.drew | with_reducible apply Chg.alloc | with_reducible apply Chg.ext | with_reducible refine Chg.setRow ?_ _ _ (.inl rfl)))), .inr ⟨l + 1, by omega, by omega, by go_num, HSS, Lib.hid inferInstance⟩⟩
          case measure => simp [intOf]; omega
      · have hn' : 16 ≤ X / 512 := by omega
        have HSS : Hid (Steps f 16 a q root 3 L) := by
          rcases (by omega : n = 0 ∨ n = 1 ∨ n = 2 ∨ n = 3) with rfl | rfl | rfl | rfl
          · exact Lib.hid HS.out.mono.mono.mono
          · exact Lib.hid HS.out.mono.mono
          · exact Lib.hid HS.out.mono
          · exact HS
        rw [hl]
        repeat (first
          | (go_at_call 16; with_reducible refine (word_any true a q l fr H0.out _ _ HWV.out 0 HCK.out).mono ?_; rintro e w' ⟨rfl, y, rfl⟩; simp only [])
          | (go_at_call 25; with_reducible refine (mread_bad (HM.out.below (ext_below _ _)) X HXB.out hn').mono ?_; rintro e w' ⟨rfl, y, rfl⟩; simp only [ext_ext'])
          | go_values | go_skip | go_guarded | go_step | go_upon | go_step3)
        go_ret2
        exact ⟨_, L, rfl, HSS.out, ((HO.out.ext _).has), (HUP.out.ext _).to⟩
    · have hR := HR.out
      have hlq : LtW g wr := ⟨row_lt hR.row⟩
      have HUP : Hid (Up W.heap.size W wr) := Lib.hid ⟨HU3.out.below.trans (HC.out.below (fun k e => e ▸ HQ.out.1) HU3.out.le), Nat.le_trans HU3.out.le HC.out.size⟩
      have i5 : i < 5 := by omega
      repeat (first
        | go_values | go_skip | go_guarded | go_step | go_upon | go_step3)
      go_ret2
      exact ⟨_, L, rfl, HS.out, HO.out.has, HUP.out.to⟩
end
end Go.Proofs.Ytcjklghjnbhcdaa
