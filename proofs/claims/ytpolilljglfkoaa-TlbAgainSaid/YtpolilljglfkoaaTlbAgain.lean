/- TlbAgain walks to true. -/
import Derived.Test.YtpolilljglfkoaaTlbWakes
import Derived.Test.YtpolilljglfkoaaTlbHT
import Derived.Test.YtpolilljglfkoaaTlbPlain
namespace Go.Proofs.Ytpolilljglfkoaa
open Go.RowKit
attribute [local go_sem ↓] Go.wp_at_zero Go.wp_at_succ

theorem Drop_to (l : List E) (v : Value) (k a q : Int) (hq0 : 0 ≤ q) (hq1 : q < 18446744073709551616) (w : World) (hv : Has E.enc w v l) (hc : Chk mostT E.may E.same l) (L : List E) (hL : (l.filter fun x => !E.hits k a q x) = L) :
    Calls Try.prog 31 #[v, tlbi k a q] w fun e w' => ∃ v' y, e = .returned v' ∧ w' = ext w y ∧ Has E.enc (ext w y) v' L := by
  subst hL
  exact (Drop_yes l v k a q hq0 hq1 w hv hc).mono fun _ _ ⟨v', y, h1, h2, h3⟩ => ⟨v', y, h1, h2, h3.has⟩
theorem Fill_to (l : List E) (v : Value) (x : E) (w : World) (hv : Has E.enc w v l) (hc : Chk mostT E.may E.same l) (hm : x.may = true) (L : List E) (hL : fillL mostT E.same l x = L) :
    Calls Try.prog 29 #[v, x.v] w fun e w' => ∃ v' y, e = .returned (.tuple #[v', .int .i64 0]) ∧ w' = ext w y ∧ Has E.enc (ext w y) v' L :=
  (Fill_yes l v x w hv hc hm L hL).mono fun _ _ ⟨v', y, h1, h2, h3⟩ => ⟨v', y, h1, h2, h3.has⟩

set_option maxHeartbeats 4000000 in
theorem again_go (l : List E) (v : Value) (e : E) (k1 a1 q1 k2 a2 q2 : Int) (h10 : 0 ≤ q1) (h11 : q1 < 18446744073709551616) (h20 : 0 ≤ q2) (h21 : q2 < 18446744073709551616) (w : World) (hv : Has E.enc w v l) :
    Calls Try.prog 7 #[v, e.v, tlbi k1 a1 q1, tlbi k2 a2 q2] w fun e w' => e = .returned (.bool true) ∧ ∃ x, w' = ext w x := by
  have HV := Lib.hid hv; clear hv
  have H11 := Lib.hid h11; clear h11
  have H21 := Lib.hid h21; clear h21
  by_cases hc : Chk mostT E.may E.same l
  · have he := chk_yes hc
    have hM := chk_filter (p := fun x => !E.hits k1 a1 q1 x) E.same_key hc
    have hLB := chk_filter (p := fun x => !E.hits k2 a2 q2 x) E.same_key hc
    have hM1 := filter_twice (fun x => !E.hits k1 a1 q1 x) l
    have hMB := filter_swap (fun x => !E.hits k2 a2 q2 x) (fun x => !E.hits k1 a1 q1 x) l
    obtain ⟨M, hMd⟩ : ∃ M, (l.filter fun x => !E.hits k1 a1 q1 x) = M := ⟨_, rfl⟩
    obtain ⟨LB, hLBd⟩ : ∃ LB, (l.filter fun x => !E.hits k2 a2 q2 x) = LB := ⟨_, rfl⟩
    rw [hMd] at hM hM1 hMB
    rw [hLBd] at hLB hMB
    obtain ⟨MB, hMBd⟩ : ∃ MB, (M.filter fun x => !E.hits k2 a2 q2 x) = MB := ⟨_, rfl⟩
    rw [hMBd] at hMB
    have hMl : M.length ≤ 1000 := by have := hM.1; simp only [mostT] at this; omega
    have hMBl : MB.length ≤ 1000 := by rw [← hMBd]; exact Nat.le_trans (List.length_filter_le _ _) hMl
    have HMl := Lib.hid hMl; clear hMl
    have HMBl := Lib.hid hMBl; clear hMBl
    have HC := Lib.hid hc; clear hc
    have HM := Lib.hid hM; clear hM
    have HLB := Lib.hid hLB; clear hLB
    have HM1 := Lib.hid hM1; clear hM1
    have HMB := Lib.hid hMB; clear hMB
    have HMd := Lib.hid hMd; clear hMd
    have HLBd := Lib.hid hLBd; clear hLBd
    have HMBd := Lib.hid hMBd; clear hMBd
    cases hm : e.may
    · have hn : ¬ (Chk mostT E.may E.same l ∧ e.may = true) := fun h => by rw [hm] at h; exact absurd h.2 (by decide)
      have HN := Lib.hid hn; clear hn
      go_enter Try.func7, Try.ntmps7
      go_wp2_with (first
        | (go_at_call 28; with_reducible refine (Check_any l v _ (by repeat (first | with_reducible exact HV.out | with_reducible apply has_drew | with_reducible apply has_alloc | with_reducible apply Has.ext)) 0 he).mono ?_; rintro e w' ⟨rfl, z, rfl⟩)
        | (go_at_call 29; with_reducible refine (Fill_no l v e _ (by repeat (first | with_reducible exact HV.out | with_reducible apply has_drew | with_reducible apply has_alloc | with_reducible apply Has.ext)) HN.out).mono ?_; rintro e w' ⟨rfl, z, rfl⟩)
        | (go_at_call 31; with_reducible refine (Drop_to l v k1 a1 q1 h10 H11.out _ (by repeat (first | with_reducible exact HV.out | with_reducible apply has_drew | with_reducible apply has_alloc | with_reducible apply Has.ext)) HC.out M HMd.out).mono ?_; rintro e w' ⟨vm, z, rfl, rfl, hd⟩; (try simp only [ext_ext'] at hd); have HDM := Lib.hid hd; clear hd))
      set_option maxRecDepth 20000 in
      go_region_held3 (fun W => W.cell? ⟨w.heap.size + 1, 0, none⟩ = some (.int .i8 k1) ∧ W.cell? ⟨w.heap.size + 1, 1, none⟩ = some (.int .i64 a1) ∧ W.cell? ⟨w.heap.size + 1, 2, none⟩ = some (.int .u64 q1) ∧ W.cell? ⟨w.heap.size + 1 + 1, 0, none⟩ = some (.int .i8 k2) ∧ W.cell? ⟨w.heap.size + 1 + 1, 1, none⟩ = some (.int .i64 a2) ∧ W.cell? ⟨w.heap.size + 1 + 1, 2, none⟩ = some (.int .u64 q2))
        (first | (go_keep; done) | (refine ⟨?_, ?_, ?_, ?_, ?_, ?_⟩ <;> simp [go_sem]))
        (first
          | (go_at_call 31; with_reducible refine (Drop_to M vm k1 a1 q1 h10 H11.out _ (by repeat (first | with_reducible exact HDM.out | with_reducible apply has_drew | with_reducible apply has_ext' | with_reducible apply has_alloc | with_reducible apply has_exd')) HM.out M HM1.out).mono ?_; rintro e w' ⟨v1, z, rfl, rfl, hd⟩; (try simp only [ext_ext', ext_drew'] at hd); have HD1 := Lib.hid hd; clear hd)
          | (go_at_call 30; with_reducible refine (Same_eq M v1 vm _ HMl.out (by repeat (first | with_reducible exact HD1.out | with_reducible apply has_drew | with_reducible apply has_ext' | with_reducible apply has_alloc | with_reducible apply has_exd')) (by repeat (first | with_reducible exact HDM.out | with_reducible apply has_drew | with_reducible apply has_ext' | with_reducible apply has_alloc | with_reducible apply has_exd'))).mono ?_; rintro e w' ⟨rfl, z, rfl⟩)
          | (go_at_call 31; with_reducible refine (Drop_to M vm k2 a2 q2 h20 H21.out _ (by repeat (first | with_reducible exact HDM.out | with_reducible apply has_drew | with_reducible apply has_ext' | with_reducible apply has_alloc | with_reducible apply has_exd')) HM.out MB HMBd.out).mono ?_; rintro e w' ⟨v2, z, rfl, rfl, hd⟩; (try simp only [ext_ext', ext_drew'] at hd); have HD2 := Lib.hid hd; clear hd)
          | (go_at_call 31; with_reducible refine (Drop_to l v k2 a2 q2 h20 H21.out _ (by repeat (first | with_reducible exact HV.out | with_reducible apply has_drew | with_reducible apply has_alloc | with_reducible apply Has.ext)) HC.out LB HLBd.out).mono ?_; rintro e w' ⟨v3, z, rfl, rfl, hd⟩; (try simp only [ext_ext', ext_drew'] at hd); have HD3 := Lib.hid hd; clear hd)
          | (go_at_call 31; with_reducible refine (Drop_to LB v3 k1 a1 q1 h10 H11.out _ (by repeat (first | with_reducible exact HD3.out | with_reducible apply has_drew | with_reducible apply has_ext' | with_reducible apply has_alloc | with_reducible apply has_exd')) HLB.out MB HMB.out).mono ?_; rintro e w' ⟨v4, z, rfl, rfl, hd⟩; (try simp only [ext_ext', ext_drew'] at hd); have HD4 := Lib.hid hd; clear hd)
          | (go_at_call 30; with_reducible refine (Same_eq MB v2 v4 _ HMBl.out (by repeat (first | with_reducible exact HD2.out | with_reducible apply has_drew | with_reducible apply has_ext' | with_reducible apply has_alloc | with_reducible apply has_exd')) (by repeat (first | with_reducible exact HD4.out | with_reducible apply has_drew | with_reducible apply has_ext' | with_reducible apply has_alloc | with_reducible apply has_exd'))).mono ?_; rintro e w' ⟨rfl, z, rfl⟩)
          | (go_at_call 25; with_reducible refine (wakes11 _).mono ?_; rintro e w' ⟨rfl, z, rfl⟩))
      all_goals
        go_wp2
        go_ret
        exact ⟨rfl, up_to⟩
    · have hL1 := chk_fill (e := e) E.same_key (by decide) HC.out hm
      have hL2 := fill_again (e := e) E.same_key (by decide) HC.out hm
      obtain ⟨L1, hL1d⟩ : ∃ L1, fillL mostT E.same l e = L1 := ⟨_, rfl⟩
      rw [hL1d] at hL1 hL2
      have hL1l : L1.length ≤ 1000 := by have := hL1.1; simp only [mostT] at this; omega
      have HL1l := Lib.hid hL1l; clear hL1l
      have HL1 := Lib.hid hL1; clear hL1
      have HL2 := Lib.hid hL2; clear hL2
      have HL1d := Lib.hid hL1d; clear hL1d
      go_enter Try.func7, Try.ntmps7
      go_wp2_with (first
        | (go_at_call 28; with_reducible refine (Check_any l v _ (by repeat (first | with_reducible exact HV.out | with_reducible apply has_drew | with_reducible apply has_alloc | with_reducible apply Has.ext)) 0 he).mono ?_; rintro e w' ⟨rfl, z, rfl⟩)
        | (go_at_call 29; with_reducible refine (Fill_to l v e _ (by repeat (first | with_reducible exact HV.out | with_reducible apply has_drew | with_reducible apply has_alloc | with_reducible apply Has.ext)) HC.out hm L1 HL1d.out).mono ?_; rintro e w' ⟨vx, z, rfl, rfl, hd⟩; (try simp only [ext_ext'] at hd); have HX := Lib.hid hd; clear hd)
        | (go_at_call 29; with_reducible refine (Fill_to L1 vx e _ (by repeat (first | with_reducible exact HX.out | with_reducible apply has_drew | with_reducible apply has_ext' | with_reducible apply has_alloc | with_reducible apply has_exd')) HL1.out hm L1 HL2.out).mono ?_; rintro e w' ⟨vy, z, rfl, rfl, hd⟩; (try simp only [ext_ext'] at hd); have HY := Lib.hid hd; clear hd)
        | (go_at_call 30; with_reducible refine (Same_eq L1 vx vy _ HL1l.out (by repeat (first | with_reducible exact HX.out | with_reducible apply has_drew | with_reducible apply has_ext' | with_reducible apply has_alloc | with_reducible apply has_exd')) (by repeat (first | with_reducible exact HY.out | with_reducible apply has_drew | with_reducible apply has_ext' | with_reducible apply has_alloc | with_reducible apply has_exd'))).mono ?_; rintro e w' ⟨rfl, z, rfl⟩)
        | (go_at_call 31; with_reducible refine (Drop_to l v k1 a1 q1 h10 H11.out _ (by repeat (first | with_reducible exact HV.out | with_reducible apply has_drew | with_reducible apply has_alloc | with_reducible apply Has.ext)) HC.out M HMd.out).mono ?_; rintro e w' ⟨vm, z, rfl, rfl, hd⟩; (try simp only [ext_ext'] at hd); have HDM := Lib.hid hd; clear hd))
      set_option maxRecDepth 20000 in
      go_region_held3 (fun W => W.cell? ⟨w.heap.size + 1, 0, none⟩ = some (.int .i8 k1) ∧ W.cell? ⟨w.heap.size + 1, 1, none⟩ = some (.int .i64 a1) ∧ W.cell? ⟨w.heap.size + 1, 2, none⟩ = some (.int .u64 q1) ∧ W.cell? ⟨w.heap.size + 1 + 1, 0, none⟩ = some (.int .i8 k2) ∧ W.cell? ⟨w.heap.size + 1 + 1, 1, none⟩ = some (.int .i64 a2) ∧ W.cell? ⟨w.heap.size + 1 + 1, 2, none⟩ = some (.int .u64 q2))
        (first | (go_keep; done) | (refine ⟨?_, ?_, ?_, ?_, ?_, ?_⟩ <;> simp [go_sem]))
        (first
          | (go_at_call 31; with_reducible refine (Drop_to M vm k1 a1 q1 h10 H11.out _ (by repeat (first | with_reducible exact HDM.out | with_reducible apply has_drew | with_reducible apply has_ext' | with_reducible apply has_alloc | with_reducible apply has_exd')) HM.out M HM1.out).mono ?_; rintro e w' ⟨v1, z, rfl, rfl, hd⟩; (try simp only [ext_ext', ext_drew'] at hd); have HD1 := Lib.hid hd; clear hd)
          | (go_at_call 30; with_reducible refine (Same_eq M v1 vm _ HMl.out (by repeat (first | with_reducible exact HD1.out | with_reducible apply has_drew | with_reducible apply has_ext' | with_reducible apply has_alloc | with_reducible apply has_exd')) (by repeat (first | with_reducible exact HDM.out | with_reducible apply has_drew | with_reducible apply has_ext' | with_reducible apply has_alloc | with_reducible apply has_exd'))).mono ?_; rintro e w' ⟨rfl, z, rfl⟩)
          | (go_at_call 31; with_reducible refine (Drop_to M vm k2 a2 q2 h20 H21.out _ (by repeat (first | with_reducible exact HDM.out | with_reducible apply has_drew | with_reducible apply has_ext' | with_reducible apply has_alloc | with_reducible apply has_exd')) HM.out MB HMBd.out).mono ?_; rintro e w' ⟨v2, z, rfl, rfl, hd⟩; (try simp only [ext_ext', ext_drew'] at hd); have HD2 := Lib.hid hd; clear hd)
          | (go_at_call 31; with_reducible refine (Drop_to l v k2 a2 q2 h20 H21.out _ (by repeat (first | with_reducible exact HV.out | with_reducible apply has_drew | with_reducible apply has_alloc | with_reducible apply Has.ext)) HC.out LB HLBd.out).mono ?_; rintro e w' ⟨v3, z, rfl, rfl, hd⟩; (try simp only [ext_ext', ext_drew'] at hd); have HD3 := Lib.hid hd; clear hd)
          | (go_at_call 31; with_reducible refine (Drop_to LB v3 k1 a1 q1 h10 H11.out _ (by repeat (first | with_reducible exact HD3.out | with_reducible apply has_drew | with_reducible apply has_ext' | with_reducible apply has_alloc | with_reducible apply has_exd')) HLB.out MB HMB.out).mono ?_; rintro e w' ⟨v4, z, rfl, rfl, hd⟩; (try simp only [ext_ext', ext_drew'] at hd); have HD4 := Lib.hid hd; clear hd)
          | (go_at_call 30; with_reducible refine (Same_eq MB v2 v4 _ HMBl.out (by repeat (first | with_reducible exact HD2.out | with_reducible apply has_drew | with_reducible apply has_ext' | with_reducible apply has_alloc | with_reducible apply has_exd')) (by repeat (first | with_reducible exact HD4.out | with_reducible apply has_drew | with_reducible apply has_ext' | with_reducible apply has_alloc | with_reducible apply has_exd'))).mono ?_; rintro e w' ⟨rfl, z, rfl⟩)
          | (go_at_call 25; with_reducible refine (wakes11 _).mono ?_; rintro e w' ⟨rfl, z, rfl⟩))
      all_goals
        go_wp2
        go_ret
        exact ⟨rfl, up_to⟩
  · have he := chk_no hc
    clear hc
    go_enter Try.func7, Try.ntmps7
    go_wp2_with (first
      | (go_at_call 28; with_reducible refine (Check_any l v _ (by repeat (first | with_reducible exact HV.out | with_reducible apply has_drew | with_reducible apply has_alloc | with_reducible apply Has.ext)) 2 he).mono ?_; rintro e w' ⟨rfl, z, rfl⟩)
      | (go_at_call 25; with_reducible refine (wakes11 _).mono ?_; rintro e w' ⟨rfl, z, rfl⟩))
    go_ret
    exact ⟨rfl, up_to⟩

theorem TlbAgain_walk (w : World) (l : List E) (v : Value) (ea ep ef : Int) (ro : Bool) (k1 a1 q1 k2 a2 q2 : Int) (hv : Has E.enc w v l) (_ : (Lit.int .i64 ea).wf = true) (_ : (Lit.int .u64 ep).wf = true) (_ : (Lit.int .i64 ef).wf = true) (_ : (Lit.int .i8 k1).wf = true) (_ : (Lit.int .i64 a1).wf = true) (w1 : (Lit.int .u64 q1).wf = true) (_ : (Lit.int .i8 k2).wf = true) (_ : (Lit.int .i64 a2).wf = true) (w2 : (Lit.int .u64 q2).wf = true) :
    Calls Try.prog 7 #[v, tlb ea ep ef ro, tlbi k1 a1 q1, tlbi k2 a2 q2] w fun e w' => e = .returned (.bool true) ∧ ∃ x, w' = ext w x := by
  obtain ⟨h10, h11⟩ := bd_u64 w1
  obtain ⟨h20, h21⟩ := bd_u64 w2
  exact again_go l v ⟨ea, ep, ef, ro⟩ k1 a1 q1 k2 a2 q2 h10 h11 h20 h21 w hv
end Go.Proofs.Ytpolilljglfkoaa
