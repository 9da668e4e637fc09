/- Send of the cast, where there is room. -/
import Derived.Test.YtpolilljglfkoaaCastD
import Derived.BigRegion
namespace Go.Proofs.Ytpolilljglfkoaa
open Go.RowKit

set_option maxRecDepth 100000 in
set_option maxHeartbeats 4000000 in
theorem send_ok {F : Nat → Prop} {W : World} {c n : Nat} {rows : Nat → List P4} {vs : Nat → Value} (h : CastAt F W c n rows vs) (core : Nat) (hc1 : 1 ≤ core) (hc2 : core ≤ n) (tk ta tp : Int) (hm : mayB tk ta tp = true)
    (hroom : ∀ k, 1 ≤ k → k ≤ n → k ≠ core → (rows k).length < 16) :
    Calls Try.prog 11 #[.pointer (some ⟨c, 0, none⟩), .int .i64 (core : Int), tlbi tk ta tp] W fun e w' => e = .returned (.int .i64 0) ∧ ∃ F' vs', CastAt F' w' c n (sent rows core ⟨core, tk, ta, tp⟩ (n + 1)) vs' ∧ Chg F W w' ∧ ∀ b, F' b → F b ∨ W.heap.size ≤ b := by
  have hn := h.n8
  have h0 := h.cn
  haveI : LtW c W := ⟨h.lt⟩
  have hkn : (decide ((1 : Int) ≤ (core : Int)) && decide ((core : Int) ≤ (n : Int))) = true := by simp; omega
  have hr : (if mayB tk ta tp = true then (0 : Int) else 2) = 0 := by rw [if_pos hm]
  have HR := Lib.hid hr
  have HH := Lib.hid h
  have HRO := Lib.hid hroom
  obtain ⟨i0, hi, hz0, hz1, hz2⟩ := info_parts infoP4
  clear hr hm h hroom
  go_enter Try.func11, Try.ntmps11
  go_wp2_with fail
  go_step3
  go_wp2_with (first
    | (go_at_call 40; with_reducible refine (encode_err tk ta tp _ 0 HR.out).mono ?_; rintro e w' ⟨u, rfl, z, rfl⟩)
    | (go_at_call 41; with_reducible refine (there_any _ c n _ (by simp [go_sem, h0]) true hkn).mono ?_; rintro e w' ⟨rfl, z, rfl⟩))
  go_step3
  go_wp2_with fail
  go_loopw [9] (fun i wr => ∃ k : Nat, 1 ≤ k ∧ k ≤ n + 1 ∧ i = .int .i64 (k : Int) ∧ ∃ y, wr = ext (W.alloc (.cells #[.int .i8 tk, .int .i64 ta, .int .u64 tp] 35)) y) (fun i _ => (n + 1 - intOf i).toNat)
  case atStart => exact ⟨1, by omega, by omega, by simp, up_to⟩
  case round =>
    obtain ⟨k, hk1, hk2, rfl, y, rfl⟩ := hrel
    by_cases hle : k ≤ n
    · have hrc := HH.out.cr k (by omega)
      obtain ⟨ad, cap, hv⟩ := own_slice (HH.out.row k (by omega))
      rw [hv] at hrc
      clear hv
      have hk9 : (k : Int) < 9 := by omega
      have hkz : (k : Int) ≤ (n : Int) := by omega
      by_cases hkc : k = core
      · have hkc2 : ((k : Int) == (core : Int)) = true := by simp [hkc]
        have HKC := Lib.hid hkc; clear hkc
        go_wp2_with fail
        go_roundw
        case rel => exact ⟨k + 1, by omega, by omega, by go_num, up_to⟩
        case measure => simp [intOf]; omega
      · have hkc2 : ((k : Int) == (core : Int)) = false := by simp; omega
        have hl1 : ((rows k).length : Int) < 16 := by have := HRO.out k hk1 hle hkc; omega
        go_wp2_with fail
        go_roundw
        case rel => exact ⟨k + 1, by omega, by omega, by go_num, up_to⟩
        case measure => simp [intOf]; omega
    · have hkz : (n : Int) < (k : Int) := by omega
      go_wp2_with fail
      obtain ⟨W0, hW0⟩ : ∃ W0, W0 = W.alloc (.cells #[.int .i8 tk, .int .i64 ta, .int .u64 tp] 35) := ⟨_, rfl⟩
      rw [← hW0]
      have hB0 : Below W.heap.size W W0 := by rw [hW0]; exact up_below
      have hs0 : W0.heap.size = W.heap.size + 1 := by rw [hW0]; simp
      have t0 : W0.cell? ⟨W.heap.size, 0, none⟩ = some (.int .i8 tk) := by rw [hW0]; simp [go_sem]
      have t1 : W0.cell? ⟨W.heap.size, 1, none⟩ = some (.int .i64 ta) := by rw [hW0]; simp [go_sem]
      have t2 : W0.cell? ⟨W.heap.size, 2, none⟩ = some (.int .u64 tp) := by rw [hW0]; simp [go_sem]
      clear hW0
      obtain ⟨q, hq⟩ : ∃ q, W.heap.size = q := ⟨_, rfl⟩
      rw [hq] at hs0 t0 t1 t2 ⊢
      have hFq : ¬ F q := fun hf => by have := HH.out.fl q hf; omega
      have HB0 := Lib.hid hB0; have HQ := Lib.hid hq; have HS0 := Lib.hid hs0
      have T0 := Lib.hid t0; have T1 := Lib.hid t1; have T2 := Lib.hid t2
      clear hB0 hq hs0 t0 t1 t2
      have hstart : CastAt F (ext W0 y) c n (sent rows core ⟨core, tk, ta, tp⟩ 1) vs := by rw [sent_one]; exact (HH.out.below HB0.out).below (ext_below W0 y)
      have HST := Lib.hid hstart; clear hstart
      clear hkz hle hk2 hk1
      have h0' := h0
      clear h0
      go_loopw [10] (fun i wr => ∃ k : Nat, 1 ≤ k ∧ k ≤ n + 1 ∧ i = .int .i64 (k : Int) ∧ ∃ F' vs', Hid (CastAt F' wr c n (sent rows core ⟨core, tk, ta, tp⟩ k) vs') ∧ Hid (∀ b, F' b → F b ∨ W0.heap.size ≤ b) ∧ Hid (Chg F W0 wr)) (fun i _ => (n + 1 - intOf i).toNat)
      case atStart => exact ⟨1, by omega, by omega, by simp, F, vs, HST, fun b hb => .inl hb, Chg.of_below (ext_below W0 y)⟩
      case round =>
        obtain ⟨k, hk1, hk2, rfl, F', vs', HC, HF, HG⟩ := hrel
        haveI : LtW c wr := ⟨HC.out.lt⟩
        have h0 := HC.out.cn
        by_cases hle : k ≤ n
        · have hrc := HC.out.cr k (by omega)
          have hrow := HC.out.row k (by omega)
          rw [sent_at] at hrow
          have hk9 : (k : Int) < 9 := by omega
          have hkz : (k : Int) ≤ (n : Int) := by omega
          by_cases hkc : k = core
          · have hkc2 : ((k : Int) != (core : Int)) = false := by simp [hkc]
            have HKC := Lib.hid hkc; clear hkc hrow hrc
            go_wp2_with fail
            go_roundw
            case rel => exact ⟨k + 1, by omega, by omega, by go_num, F', vs', by have := HKC.out; subst this; rw [sent_same]; exact HC, HF, HG⟩
            case measure => simp [intOf]; omega
          · have hkc2 : ((k : Int) != (core : Int)) = true := by simp; omega
            have hlen := HRO.out k hk1 hle hkc
            have hq1 : q < W0.heap.size := by have := HS0.out; omega
            have t0 : wr.cell? ⟨q, 0, none⟩ = some (.int .i8 tk) := (HG.out.cell q 0 hq1 hFq).trans T0.out
            have t1 : wr.cell? ⟨q, 1, none⟩ = some (.int .i64 ta) := (HG.out.cell q 1 hq1 hFq).trans T1.out
            have t2 : wr.cell? ⟨q, 2, none⟩ = some (.int .u64 tp) := (HG.out.cell q 2 hq1 hFq).trans T2.out
            haveI : LtW q wr := ⟨Nat.lt_of_lt_of_le hq1 HG.out.size⟩
            obtain ⟨v', W', hap, ho', hC', hv'⟩ := run_append4f P4.enc4 P4.enc1 (P := Try.prog) (w := (wr.alloc (.cells #[.int .i64 (core : Int), .int .i8 tk, .int .i64 ta, .int .u64 tp] 88)).drew) 81 81 88 i0 _ 32 Try.underlying81 hi hz0 hz1 hz2 rfl (vs' k) (rows k) [⟨core, tk, ta, tp⟩]
              ((hrow.chg (F := fun _ => False) (Chg.of_below ((Below.refl _ _).alloc (Nat.le_refl _) _)) (fun _ _ h => h)).chg (F := fun _ => False) (Chg.of_below (Below.drew (Below.refl _ _))) (fun _ _ h => h)) ⟨wr.heap.size, 0, none⟩ 1
              (fun j u h => World.news_of_block (cs := #[.int .i64 (core : Int), .int .i8 tk, .int .i64 ta, .int .u64 tp]) (heap_alloc_new wr _) j u h) (by simp [maxLen]; omega) (by simp; omega)
            obtain ⟨va, vl, vc, hve⟩ : ∃ va vl vc, v' = .slice va vl vc := by obtain ⟨va, vc, h⟩ := own_slice ho'; exact ⟨va, _, vc, h⟩
            subst hve
            have HC1 : Hid (CastAt F' (wr.alloc (.cells #[.int .i64 (core : Int), .int .i8 tk, .int .i64 ta, .int .u64 tp] 88)).drew c n (sent rows core ⟨core, tk, ta, tp⟩ k) vs') := HC.out.below ((Below.refl _ _).alloc (Nat.le_refl _) _).drew
            have HNEW := Lib.hid (HC1.out.put k (by omega) (.slice va vl vc) (rows k ++ [⟨core, tk, ta, tp⟩]) ho' (by simp; omega) hC' hv')
            have hcn : ¬ (vs' k).ownBlock = some c := fun e => (HC.out.fr k c (by omega) e).2 rfl
            have hcl : c < (wr.alloc (.cells #[.int .i64 (core : Int), .int .i8 tk, .int .i64 ta, .int .u64 tp] 88)).drew.heap.size := HC1.out.lt
            have k1 : W'.cell? ⟨c, 1 + k, none⟩ = some (vs' k) := (hC'.cell c (1 + k) hcl hcn).trans (HC1.out.cr k (by omega))
            have k2 : W'.frozen? ⟨c, 1 + k, none⟩ = false := by simp [World.frozen?, (hC'.block c hcl hcn).trans HC1.out.blk]
            have HG2 : Hid (Chg F W0 (W'.setCell ⟨c, 1 + k, none⟩ (.slice va vl vc))) := by
              have g1 : Chg F W0 (wr.alloc (.cells #[.int .i64 (core : Int), .int .i8 tk, .int .i64 ta, .int .u64 tp] 88)).drew := (HG.out.alloc _).drew
              have g2 : Chg F W0 W' := g1.trans hC' (fun b hb e => by
                rcases HF.out b (HC.out.fr k b (by omega) e).1 with h | h
                · exact h
                · omega)
              exact g2.set c _ _ (.inl HH.out.fc)
            have HF2 : Hid (∀ b, (F' b ∨ ((wr.alloc (.cells #[.int .i64 (core : Int), .int .i8 tk, .int .i64 ta, .int .u64 tp] 88)).drew.heap.size ≤ b ∧ b < W'.heap.size)) → F b ∨ W0.heap.size ≤ b) := fun b hb => by
              rcases hb with hb | hb
              · exact HF.out b hb
              · have := HG.out.size
                have h2 := hb.1
                simp at h2
                exact .inr (by omega)
            have HAP := Lib.hid hap
            have HLEN := Lib.hid hlen
            have HKC := Lib.hid hkc
            haveI : LtW c W' := ⟨Nat.lt_of_lt_of_le hcl hC'.size⟩
            clear hap ho' hC' hv' hcn hcl hrow hlen hq1 hkc HC1
            generalize vs' k = vk at hrc k1 HAP
            go_wp2_with fail
            go_region_law (refine step_append_run' (by rfl) _ _ 81 (by rfl) _ _ (by rfl) (by rfl) HAP.out ?_)
            all_goals
              go_wp2_with fail
              go_roundw
              case rel => exact ⟨k + 1, by omega, by omega, by go_num, _, _, by rw [sent_next _ _ _ _ hk1 HKC.out]; exact HNEW, HF2, HG2⟩
              case measure => simp [intOf]; omega
        · have hkz : (n : Int) < (k : Int) := by omega
          obtain rfl : k = n + 1 := by omega
          go_wp2_with fail
          (try rw [Exit.noGoto_ret])
          go_ret
          refine ⟨rfl, F', vs', HC.out, ?_, fun b hb => ?_⟩
          · exact (Chg.of_below (F := F) (show Below W.heap.size W W0 by rw [HQ.out]; exact HQ.out ▸ HB0.out)).trans HG.out (fun _ _ h => h)
          · rcases HF.out b hb with h | h
            · exact .inl h
            · have := HS0.out; have := HQ.out; exact .inr (by omega)
end Go.Proofs.Ytpolilljglfkoaa
