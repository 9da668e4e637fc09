/- TlbBest walks to true. -/
import Derived.Test.YtpolilljglfkoaaTlbWakes
import Derived.Test.YtpolilljglfkoaaTlbNear
namespace Go.Proofs.Ytpolilljglfkoaa
open Go.RowKit

theorem DropSteps_to (l : List S) (v : Value) (k a q : Int) (hq0 : 0 ≤ q) (hq1 : q < 18446744073709551616) (w : World) (hv : Has S.enc w v l) (hc : Chk mostS S.may S.same l) (L : List S) (hL : (l.filter fun x => !S.hits k a q x) = L) :
    Calls Try.prog 27 #[v, tlbi k a q] w fun e w' => ∃ v' y, e = .returned v' ∧ w' = ext w y ∧ Has S.enc (ext w y) v' L := by
  subst hL
  exact (DropSteps_yes l v k a q hq0 hq1 w hv hc).mono fun _ _ ⟨v', y, h1, h2, h3⟩ => ⟨v', y, h1, h2, h3.has⟩

theorem Best_to (l : List S) (v : Value) (a q : Int) (w : World) (hv : Has S.enc w v l) (hc : Chk mostS S.may S.same l) (r : S) (hr : bestL a q l = r) (k : Bool) (hk : decide (0 < r.l) = k) :
    Calls Try.prog 26 #[v, .int .i64 a, .int .u64 q] w fun e w' => e = .returned (.tuple #[r.v, .bool k]) ∧ ∃ x, w' = ext w x := by
  subst hk
  exact Best_yes l v a q w hv hc r hr

set_option maxHeartbeats 4000000 in
theorem best_go (l : List S) (v : Value) (a q : Int) (hq0 : 0 ≤ q) (hq1 : q < 18446744073709551616) (w : World) (hv : Has S.enc w v l) :
    Calls Try.prog 6 #[v, .int .i64 a, .int .u64 q] w fun e w' => e = .returned (.bool true) ∧ ∃ x, w' = ext w x := by
  have HV := Lib.hid hv
  have HQ := Lib.hid hq1; clear hq1
  by_cases hc : Chk mostS S.may S.same l
  · have he := chk_yes hc
    by_cases hq : q < 34359738368
    · have hmay : ∀ x ∈ l, x.may = true := fun x hx => by
        obtain ⟨i, hi, rfl⟩ := List.mem_iff_getElem.1 hx
        exact (hc.2 i _ (List.getElem?_eq_getElem hi)).1
      have hsome := best_some a q l hmay
      have hnear := best_near a q l
      have his := best_is a q l
      have hgone : 0 ≤ a → a ≤ 255 → bestL a q (l.filter fun x => !S.hits 2 a q x) = ⟨0, 0, 0, 0⟩ := fun h0 h1 => best_gone a q l h0 h1 hq hmay
      have hM := chk_filter (p := fun x => !S.hits 2 a q x) S.same_key hc
      have hHC := hc
      have HC := Lib.hid hc; clear hc
      obtain ⟨r, hr⟩ : ∃ r, bestL a q l = r := ⟨_, rfl⟩
      rw [hr] at hsome hnear his
      obtain ⟨okb, hok⟩ : ∃ okb, decide (0 < r.l) = okb := ⟨_, rfl⟩
      rw [hok] at hsome
      have HSOME := Lib.hid hsome; clear hsome
      have HNEAR := Lib.hid hnear; clear hnear
      have HIS := Lib.hid his; clear his
      have HGONE := Lib.hid hgone; clear hgone
      have HM := Lib.hid hM; clear hM
      have HOK := Lib.hid hok; clear hok
      have HR := Lib.hid hr; clear hr
      have HMAY := Lib.hid hmay; clear hmay
      clear hHC
      have hq2 : decide (34359738368 ≤ q) = false := by simp; omega
      rcases hv with ⟨rfl, hv⟩ | ⟨hl0, b, o, cap, rfl, hcap, hb, hR⟩
      · have hA : decide (a < 0) = true ∨ (decide (a < 0) = false ∧ decide (255 < a) = true) ∨ (decide (a < 0) = false ∧ decide (255 < a) = false) := by
          by_cases h1 : a < 0
          · exact .inl (by simpa using h1)
          · by_cases h2 : 255 < a
            · exact .inr (.inl ⟨by simpa using h1, by simpa using h2⟩)
            · exact .inr (.inr ⟨by simpa using h1, by simpa using h2⟩)
        clear HSOME HNEAR HIS HGONE HM HOK HR HMAY
        rcases hv with rfl | ⟨ad, cap, rfl⟩
        all_goals
          go_enter Try.func6, Try.ntmps6
          go_wp2_with (first
            | (go_at_call 24; with_reducible refine (CheckSteps_any [] _ _ (by repeat (first | with_reducible exact HV.out | with_reducible apply has_drew | with_reducible apply has_alloc | with_reducible apply Has.ext)) 0 he).mono ?_; rintro e w' ⟨rfl, z1, rfl⟩)
            | (go_at_call 26; with_reducible refine (Best_to [] _ a q _ (by repeat (first | with_reducible exact HV.out | with_reducible apply has_drew | with_reducible apply has_alloc | with_reducible apply Has.ext)) HC.out ⟨0, 0, 0, 0⟩ rfl false rfl).mono ?_; rintro e w' ⟨rfl, z2, rfl⟩))
          go_loopw [9, 11, 31] (fun s _ k wr => s = .bool false ∧ k = .int .i64 0 ∧ ∃ y, wr = ext ((ext w (exty w z1 z2)).alloc (.cells #[.int .i64 0, .int .i8 0, .int .u64 0, .int .i64 0] 61)) y) (fun _ _ _ _ => 0)
          case atStart => exact ⟨by simp, by simp, up_to⟩
          case round =>
            obtain ⟨rfl, rfl, y, rfl⟩ := hrel
            rcases hA with hA | ⟨hA, hA2⟩ | ⟨hA, hA2⟩
            · go_wp2_with (go_at_call 25; with_reducible refine (wakes11 _).mono ?_; rintro e w' ⟨rfl, z, rfl⟩)
              go_ret; exact ⟨rfl, up_to⟩
            · go_wp2_with (go_at_call 25; with_reducible refine (wakes11 _).mono ?_; rintro e w' ⟨rfl, z, rfl⟩)
              go_ret; exact ⟨rfl, up_to⟩
            · go_wp2_with (first
                | (go_at_call 27; with_reducible refine (DropSteps_to [] _ 2 a q hq0 HQ.out _ (by repeat (first | with_reducible exact HV.out | with_reducible apply has_drew | with_reducible apply has_alloc | with_reducible apply Has.ext)) HC.out [] rfl).mono ?_; rintro e w' ⟨vm, z3, rfl, rfl, hd⟩; (try simp only [ext_ext'] at hd); have HDM := Lib.hid hd; clear hd)
                | (go_at_call 26; with_reducible refine (Best_to [] vm a q _ (by repeat (first | with_reducible exact HDM.out | with_reducible apply has_drew | with_reducible apply has_ext' | with_reducible apply has_alloc | with_reducible apply has_exd')) HC.out ⟨0, 0, 0, 0⟩ rfl false rfl).mono ?_; rintro e w' ⟨rfl, z4, rfl⟩)
                | (go_at_call 25; with_reducible refine (wakes11 _).mono ?_; rintro e w' ⟨rfl, z, rfl⟩))
              go_ret; exact ⟨rfl, up_to⟩
      · haveI : LtW b w := ⟨hb⟩
        have hl4 : (l.length : Int) ≤ 4 := by have := HC.out.1; simp only [mostS] at this; omega
        have HRA := Lib.hid hR; clear hR
        go_enter Try.func6, Try.ntmps6
        go_wp2_with (first
          | (go_at_call 24; with_reducible refine (CheckSteps_any l _ _ (by repeat (first | with_reducible exact HV.out | with_reducible apply has_drew | with_reducible apply has_alloc | with_reducible apply Has.ext)) 0 he).mono ?_; rintro e w' ⟨rfl, z1, rfl⟩)
          | (go_at_call 26; with_reducible refine (Best_to l _ a q _ (by repeat (first | with_reducible exact HV.out | with_reducible apply has_drew | with_reducible apply has_alloc | with_reducible apply Has.ext)) HC.out r HR.out okb HOK.out).mono ?_; rintro e w' ⟨rfl, z2, rfl⟩))
        go_loopw [9, 11, 31] (fun s _ k wr => ∃ j : Nat, j ≤ l.length ∧ s = .bool ((l.take j).any (hitS a q)) ∧ k = .int .i64 (j : Int) ∧ ∃ y, wr = ext ((ext w (exty w z1 z2)).alloc (.cells #[r.c0, r.c1, r.c2, r.c3] 61)) y) (fun _ _ k _ => (l.length - intOf k).toNat)
        case atStart => exact ⟨0, by omega, by simp, by simp, up_to⟩
        case round =>
          obtain ⟨j, hj, rfl, rfl, y, rfl⟩ := hrel
          by_cases hlt : j < l.length
          · obtain ⟨x, hx⟩ : ∃ x, l[j]? = some x := ⟨_, List.getElem?_eq_getElem hlt⟩
            have hxm : x ∈ l := List.mem_of_getElem? hx
            have c0 : w.cell? ⟨b, o + j * 4, none⟩ = some x.c0 := HRA.out j x hx 0 _ rfl
            have c1 : w.cell? ⟨b, o + j * 4 + 1, none⟩ = some x.c1 := HRA.out j x hx 1 _ rfl
            have c2 : w.cell? ⟨b, o + j * 4 + 2, none⟩ = some x.c2 := HRA.out j x hx 2 _ rfl
            have c3 : w.cell? ⟨b, o + j * 4 + 3, none⟩ = some x.c3 := HRA.out j x hx 3 _ rfl
            have hany : (l.take (j + 1)).any (hitS a q) = ((l.take j).any (hitS a q) || hitS a q x) := by rw [List.take_add_one, hx]; simp
            have hlev := may_lev (HMAY.out x hxm)
            have hn := HNEAR.out x hxm
            have hs := HSOME.out
            have hokx : hitS a q x = true → okb = true := fun h => by rw [hs, List.any_eq_true]; exact ⟨x, hxm, h⟩
            clear hs
            generalize (l.take j).any (hitS a q) = sj at hany ⊢
            have HANY := Lib.hid hany; clear hany
            cases hh : hitS a q x
            · have hf : (x.a == a) = false ∨ ((x.a == a) = true ∧ (begV q x.l == x.p) = false) := by
                unfold hitS at hh
                cases h1 : (x.a == a)
                · exact .inl rfl
                · rw [h1] at hh; exact .inr ⟨rfl, by simpa using hh⟩
              clear hn hokx
              obtain ⟨xa, xl, xp, xf⟩ := x
              simp only at hlev hf c0 c1 c2 c3
              unfold begV at hf
              rcases hlev with rfl | rfl | rfl
              all_goals
                simp at hf
                rcases hf with hf | ⟨hf1, hf2⟩
              all_goals
                go_wp2_with fail
              all_goals
                go_roundw
                case rel => exact ⟨j + 1, by omega, by rw [HANY.out, hh]; simp, by go_num, up_to⟩
                case measure => simp [intOf]; omega
            · have hokt : okb = true := hokx hh
              have hle : decide (r.l < x.l) = false := by have := hn hh; simp; omega
              subst hokt
              clear hn hokx
              have hh2 := hh
              simp only [hitS, Bool.and_eq_true] at hh2
              obtain ⟨f1, f2⟩ := hh2
              obtain ⟨xa, xl, xp, xf⟩ := x
              simp only at hlev f1 f2 c0 c1 c2 c3 hle
              unfold begV at f2
              have HOK2 := Lib.hid HOK.out
              rcases hlev with rfl | rfl | rfl
              all_goals
                simp at f2
                have f2' := Lib.hid f2
                have f3 : (_ == xp) = true := beq_iff_eq.2 f2
                clear f2
                go_wp2_with fail
              all_goals
                go_roundw
                case rel => exact ⟨j + 1, by omega, by rw [HANY.out, hh]; simp, by go_num, up_to⟩
                case measure => simp [intOf]; omega
          · obtain rfl : j = l.length := by omega
            rw [List.take_length, ← HSOME.out]
            obtain ⟨M, hMd⟩ : ∃ M, (l.filter fun x => !S.hits 2 a q x) = M := ⟨_, rfl⟩
            have hM2 := HM.out
            have hg2 := HGONE.out
            rw [hMd] at hM2 hg2
            have HM2 := Lib.hid hM2; clear hM2 HM
            have HG2 := Lib.hid hg2; clear hg2 HGONE
            have HMd := Lib.hid hMd; clear hMd
            have hA : decide (a < 0) = true ∨ (decide (a < 0) = false ∧ decide (255 < a) = true) ∨ (decide (a < 0) = false ∧ decide (255 < a) = false ∧ Hid (0 ≤ a ∧ a ≤ 255)) := by
              by_cases h1 : a < 0
              · exact .inl (by simpa using h1)
              · by_cases h2 : 255 < a
                · exact .inr (.inl ⟨by simpa using h1, by simpa using h2⟩)
                · exact .inr (.inr ⟨by simpa using h1, by simpa using h2, (by omega : 0 ≤ a ∧ a ≤ 255)⟩)
            cases okb
            · rcases hA with hA | ⟨hA, hA2⟩ | ⟨hA, hA2, HA⟩
              · go_wp2_with (go_at_call 25; with_reducible refine (wakes11 _).mono ?_; rintro e w' ⟨rfl, z, rfl⟩)
                go_ret; exact ⟨rfl, up_to⟩
              · go_wp2_with (go_at_call 25; with_reducible refine (wakes11 _).mono ?_; rintro e w' ⟨rfl, z, rfl⟩)
                go_ret; exact ⟨rfl, up_to⟩
              · go_wp2_with (first
                  | (go_at_call 27; with_reducible refine (DropSteps_to l _ 2 a q hq0 HQ.out _ (by repeat (first | with_reducible exact HV.out | with_reducible apply has_drew | with_reducible apply has_alloc | with_reducible apply Has.ext)) HC.out M HMd.out).mono ?_; rintro e w' ⟨vm, z3, rfl, rfl, hd⟩; (try simp only [ext_ext'] at hd); have HDM := Lib.hid hd; clear hd)
                  | (go_at_call 26; with_reducible refine (Best_to M vm a q _ (by repeat (first | with_reducible exact HDM.out | with_reducible apply has_drew | with_reducible apply has_ext' | with_reducible apply has_alloc | with_reducible apply has_exd')) HM2.out ⟨0, 0, 0, 0⟩ (HG2.out HA.out.1 HA.out.2) false rfl).mono ?_; rintro e w' ⟨rfl, z4, rfl⟩)
                  | (go_at_call 25; with_reducible refine (wakes11 _).mono ?_; rintro e w' ⟨rfl, z, rfl⟩))
                go_ret; exact ⟨rfl, up_to⟩
            · have hr0 : 0 < r.l := by have := HOK.out; simpa using this
              have hrr : r ∈ l ∧ hitS a q r = true := by
                rcases HIS.out with h | h
                · rw [h] at hr0; simp at hr0
                · exact h
              have hlev := may_lev (HMAY.out r hrr.1)
              have hh2 := hrr.2
              simp only [hitS, Bool.and_eq_true, beq_iff_eq] at hh2
              obtain ⟨f1, f2⟩ := hh2
              clear hr0 hrr HIS HNEAR HMAY HR HOK HSOME
              obtain ⟨ra, rl, rp, rf⟩ := r
              simp only at hlev f1 f2
              unfold begV at f2
              replace f1 := f1.symm
              subst f1
              rcases hlev with rfl | rfl | rfl
              all_goals
                simp at f2
                have f3 : (_ == rp) = true := beq_iff_eq.2 f2
                clear f2
                rcases hA with hA | ⟨hA, hA2⟩ | ⟨hA, hA2, HA⟩
              all_goals
                first
                  | (go_wp2_with (go_at_call 25; with_reducible refine (wakes11 _).mono ?_; rintro e w' ⟨rfl, z, rfl⟩)
                     go_ret; exact ⟨rfl, up_to⟩)
                  | (go_wp2_with (first
                  | (go_at_call 27; with_reducible refine (DropSteps_to l _ 2 a q hq0 HQ.out _ (by repeat (first | with_reducible exact HV.out | with_reducible apply has_drew | with_reducible apply has_alloc | with_reducible apply Has.ext)) HC.out M HMd.out).mono ?_; rintro e w' ⟨vm, z3, rfl, rfl, hd⟩; (try simp only [ext_ext'] at hd); have HDM := Lib.hid hd; clear hd)
                  | (go_at_call 26; with_reducible refine (Best_to M vm a q _ (by repeat (first | with_reducible exact HDM.out | with_reducible apply has_drew | with_reducible apply has_ext' | with_reducible apply has_alloc | with_reducible apply has_exd')) HM2.out ⟨0, 0, 0, 0⟩ (HG2.out HA.out.1 HA.out.2) false rfl).mono ?_; rintro e w' ⟨rfl, z4, rfl⟩)
                  | (go_at_call 25; with_reducible refine (wakes11 _).mono ?_; rintro e w' ⟨rfl, z, rfl⟩))
                     go_ret; exact ⟨rfl, up_to⟩)
    · go_enter Try.func6, Try.ntmps6
      go_wp2_with (first
        | (go_at_call 24; with_reducible refine (CheckSteps_any l v _ (by repeat (first | with_reducible exact HV.out | with_reducible apply has_drew | with_reducible apply has_alloc | with_reducible apply Has.ext)) 0 he).mono ?_; rintro e w' ⟨rfl, z, rfl⟩)
        | (go_at_call 25; with_reducible refine (wakes11 _).mono ?_; rintro e w' ⟨rfl, z, rfl⟩))
      go_ret
      exact ⟨rfl, up_to⟩
  · have he := chk_no hc
    clear hc
    go_enter Try.func6, Try.ntmps6
    go_wp2_with (first
      | (go_at_call 24; with_reducible refine (CheckSteps_any l v _ (by repeat (first | with_reducible exact HV.out | with_reducible apply has_drew | with_reducible apply has_alloc | with_reducible apply Has.ext)) 2 he).mono ?_; rintro e w' ⟨rfl, z, rfl⟩)
      | (go_at_call 25; with_reducible refine (wakes11 _).mono ?_; rintro e w' ⟨rfl, z, rfl⟩))
    go_ret
    exact ⟨rfl, up_to⟩

theorem TlbBest_walk (w : World) (l : List S) (v : Value) (a q : Int) (hv : Has S.enc w v l) (_ : (Lit.int .i64 a).wf = true) (w1 : (Lit.int .u64 q).wf = true) :
    Calls Try.prog 6 #[v, .int .i64 a, .int .u64 q] w fun e w' => e = .returned (.bool true) ∧ ∃ x, w' = ext w x := by
  obtain ⟨h10, h11⟩ := bd_u64 w1
  exact best_go l v a q h10 h11 w hv
end Go.Proofs.Ytpolilljglfkoaa
