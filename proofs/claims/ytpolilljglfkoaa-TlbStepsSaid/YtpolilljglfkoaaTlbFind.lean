/- What Find tells where there is such an entry. -/
import Derived.Test.YtpolilljglfkoaaTlbGT
namespace Go.Proofs.Ytpolilljglfkoaa
open Go.RowKit

theorem Find1_any (W : World) (bw bx : Nat) [LtW bw W] [LtW bx W] (hw : W.cell? ⟨bw, 2, none⟩ = some (.func (.func 77) #[] #[])) (x y : E) (hx : AtE W bx x) :
    Calls Try.prog 72 #[y.v, .pointer (some ⟨bw, 0, none⟩), .pointer (some ⟨bx, 0, none⟩)] W fun e w' => e = .returned (.bool (y.same x)) ∧ ∃ x, w' = ext W x := by
  obtain ⟨h0, h1, h2, h3⟩ := hx
  go_enter Try.func72, Try.ntmps72
  go_wp2_with (go_at_call 77; refine (tsame_any y x _).mono ?_; rintro e w' ⟨rfl, z, rfl⟩)
  go_ret
  exact ⟨rfl, up_to⟩
theorem clos_find {Wc : World} (bw bx : Nat) [LtW bw Wc] [LtW bx Wc] (hw : Wc.cell? ⟨bw, 2, none⟩ = some (.func (.func 77) #[] #[])) (x : E) (hx : AtE Wc bx x) :
    ∀ (W : World) (y : E), Below Wc.heap.size Wc W → Calls Try.prog 72 (#[y.v] ++ #[.pointer (some ⟨bw, 0, none⟩), .pointer (some ⟨bx, 0, none⟩)]) W fun e w' => e = .returned (.bool (y.same x)) ∧ ∃ x, w' = ext W x := fun W y hB => by
  haveI := below_lt hB bw
  haveI := below_lt hB bx
  exact Find1_any W bw bx (below_cell hB bw 2 hw) x y (hx.below (LtW.lt (n := bx)) hB)
theorem enters_find : ∀ args w, (callFunc 72 args).run Try.prog w = .ok (.enter 72 args) w := enters_of Try.func72 (by kernel_rfl) rfl

set_option maxHeartbeats 1000000 in
theorem Find_hit (l : List E) (b o cap : Nat) (a p : Int) (w : World) (hcap : l.length ≤ cap) (hb : b < w.heap.size) (hR : RowAt E.enc w b o l) (hc : Chk mostT E.may E.same l) (k : Nat) (x : E) (hx : l[k]? = some x) (hi : idx (fun y => y.same ⟨a, p, 0, false⟩) l = (k : Int)) :
    Calls Try.prog 50 #[.slice (some ⟨b, o, none⟩) l.length cap, .int .i64 a, .int .u64 p] w fun e w' => e = .returned (.tuple #[x.v, .bool true]) ∧ ∃ x, w' = ext w x := by
  have hkl := (List.getElem?_eq_some_iff.1 hx).1
  have hl0 : l ≠ [] := fun h => by rw [h] at hkl; simp at hkl
  have he := chk_yes hc
  have hl8 : l.length ≤ 9223372036854775807 := by have := hc.1; simp only [mostT] at this; omega
  have HL := Lib.hid hl8; clear hl8
  have HV : Hid (Has E.enc w (.slice (some ⟨b, o, none⟩) l.length cap) l) := .inr ⟨hl0, b, o, cap, rfl, hcap, hb, hR⟩
  haveI : LtW b w := ⟨hb⟩
  have c0 : w.cell? ⟨b, o + k * 4, none⟩ = some x.c0 := hR k x hx 0 _ rfl
  have c1 : w.cell? ⟨b, o + k * 4 + 1, none⟩ = some x.c1 := hR k x hx 1 _ rfl
  have c2 : w.cell? ⟨b, o + k * 4 + 2, none⟩ = some x.c2 := hR k x hx 2 _ rfl
  have c3 : w.cell? ⟨b, o + k * 4 + 3, none⟩ = some x.c3 := hR k x hx 3 _ rfl
  have hk0 : (0 : Int) ≤ (k : Int) := by omega
  have hk1 : (k : Int) < (l.length : Int) := by omega
  have HI := Lib.hid hi; clear hi hc hR hkl hl0 hx hcap hb
  go_enter Try.func50, Try.ntmps50
  go_wp2_with (first
    | (go_at_call 54; refine (tlbs_any _).mono ?_; rintro e w' ⟨rfl, z, rfl⟩)
    | (go_at_call 71; refine (tIndexFunc_any (fun y => y.same ⟨a, p, 0, false⟩) 72 _ enters_find l _ _ (HV.out.below up_below) HL.out (clos_find _ _ (by simp [go_sem]) ⟨a, p, 0, false⟩ ⟨by simp [go_sem], by simp [go_sem], by simp [go_sem], by simp [go_sem]⟩) _ HI.out).mono ?_; rintro e w' ⟨rfl, z, rfl⟩)
    | (go_at_call 55; refine (tcheck_any l _ _ (HV.out.below up_below) 0 he).mono ?_; rintro e w' ⟨rfl, z, rfl⟩))
  exact bodyPost_ret (v := .tuple #[x.v, .bool true]) (by simp [results, Try.results50, go_sem]) rfl ⟨rfl, up_to⟩
end Go.Proofs.Ytpolilljglfkoaa
