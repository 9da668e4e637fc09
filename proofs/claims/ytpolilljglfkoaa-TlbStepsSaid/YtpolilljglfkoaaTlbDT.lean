/- slices.Clone of a Tlb-row. -/
import Derived.Test.YtpolilljglfkoaaTlbCT
namespace Go.Proofs.Ytpolilljglfkoaa
open Go.RowKit

theorem infoT : (Try.prog.info? 69).map (fun i => (i.zero, i.size, i.bytes)) = some (some (.agg #[.int .i64 0, .int .u64 0, .int .i64 0, .bool false]), 4, 32) := by kernel_rfl

theorem town_new {α : Type} {enc : α → List Value} (w : World) (t : TypeId) (base : Nat) (hb : base ≤ w.heap.size) : Own enc (w.alloc (.cells #[] t)) base (.slice (some ⟨w.heap.size, 0, none⟩) 0 0) [] :=
  .inr ⟨w.heap.size, 0, 0, #[], t, rfl, hb, Nat.le_refl _, heap_alloc_new w _, by simp, fun j x h => by simp at h⟩

set_option maxHeartbeats 1000000 in
theorem tClone_any (l : List E) (v : Value) (w : World) (hv : Has E.enc w v l) (hl : l.length ≤ 1000) :
    Calls Try.prog 81 #[v] w fun e w' => ∃ v' x, e = .returned v' ∧ w' = ext w x ∧ Own E.enc (ext w x) w.heap.size v' l := by
  obtain ⟨i0, hi, hz0, hz1, hz2⟩ := info_parts infoT
  have HL := Lib.hid hl; clear hl
  have q0 : ∀ (w : World), (binOp .eql 67 (.slice none 0 0) (.slice none 0 0)).run Try.prog w = .ok (.bool true) w := fun _ => by kernel_rfl
  have q1 : ∀ (ad : Addr) (n c : Nat) (w : World), (binOp .eql 67 (.slice (some ad) n c) (.slice none 0 0)).run Try.prog w = .ok (.bool false) w := fun _ _ _ _ => by kernel_rfl
  rcases hv with ⟨rfl, rfl | ⟨ad, cap, rfl⟩⟩ | ⟨hl0, b, o, cap, rfl, hcap, hb, hR⟩
  · go_enter Try.func81, Try.ntmps81
    go_wp2_with fail
    go_ret
    obtain ⟨x, hx⟩ := (Up.refl w).to
    exact ⟨_, x, rfl, hx, .inl ⟨rfl, rfl⟩⟩
  · go_enter Try.func81, Try.ntmps81
    go_wp2_with (at_builtin; refine append4 E.enc4 E.enc1 rfl _ _ 67 rfl 69 i0 _ 32 Try.underlying67 hi hz0 hz1 hz2 rfl w (((Up.refl w).alloc _)) _ [] [] rfl (town_new w _ _ (Nat.le_refl _)) ad cap rfl (fun j u h => by simp [flat] at h) (by simp [maxLen]) (by simp) ?_; intro v' y ho; have HO := Lib.hid ho; clear ho)
    go_ret
    exact ⟨_, y, rfl, rfl, HO.out⟩
  · have HR := Lib.hid hR; clear hR
    go_enter Try.func81, Try.ntmps81
    go_wp2_with (at_builtin; refine append4 E.enc4 E.enc1 rfl _ _ 67 rfl 69 i0 _ 32 Try.underlying67 hi hz0 hz1 hz2 rfl w (((Up.refl w).alloc _)) _ [] l rfl (town_new w _ _ (Nat.le_refl _)) ⟨b, o, none⟩ cap rfl (fun j u h => by rw [Addr.add_lit]; exact (HR.out.below hb up_below).flat E.enc4 j u h) (by have := HL.out; simp [maxLen]; omega) (by have := HL.out; simp; omega) ?_; intro v' y ho; have HO := Lib.hid ho; clear ho)
    go_ret
    exact ⟨_, y, rfl, rfl, HO.out⟩
end Go.Proofs.Ytpolilljglfkoaa
