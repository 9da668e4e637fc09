/- The memory in which page 0 is mapped, made by the laws' wakes. -/
import Derived.Test.YtcjklghjnbhcdaaWMemW
import Derived.Test.YtcjklghjnbhcdaaWAll
import Derived.BigQuiet
namespace Go.Proofs.Ytcjklghjnbhcdaa
open Go.RowKit

/-- A memory of the call's own. -/
def MemOf (w W : World) (b n : Nat) (f : Nat → Nat) (c : Nat) : Prop := ∃ F D m fr, MemAt F W b n f c m D fr ∧ (∀ i, F i → w.heap.size ≤ i) ∧ Up w.heap.size w W
theorem MemOf.up {w W : World} {b n : Nat} {f : Nat → Nat} {c : Nat} (h : MemOf w W b n f c) : Up w.heap.size w W := by
  obtain ⟨_, _, _, _, _, _, h⟩ := h; exact h
theorem MemOf.below {w W W' : World} {b n : Nat} {f : Nat → Nat} {c : Nat} (h : MemOf w W b n f c) (hB : Below W.heap.size W W') : MemOf w W' b n f c := by
  obtain ⟨F, D, m, fr, h1, h4, h6⟩ := h
  exact ⟨F, D, m, fr, h1.below hB, h4, h6.1.trans (hB.mono h6.2), Nat.le_trans h6.2 hB.size⟩
theorem mem_w {w W : World} {b n : Nat} {f : Nat → Nat} {c : Nat} (h : MemOf w W b n f c) (hc : c < 1000000) (X : Nat) (hX : X < 18446744073709551616) (V : Nat) (hV : V < 18446744073709551616) (hk : X / 512 < n) (g : Nat → Nat) (hg : updN f X V = g) :
    Calls Try.prog 26 #[.pointer (some ⟨b, 0, none⟩), .int .u64 (X : Int), .int .u64 (V : Int)] W fun e w' => e = .returned (.int .i64 0) ∧ MemOf w w' b n g (c + 1) := by
  obtain ⟨F, D, m, fr, h1, h4, h6⟩ := h
  subst hg
  refine (mwrite_any h1 hc X hX V hV hk).mono ?_
  rintro e w' ⟨rfl, F', D', fr', r1, r2, r3⟩
  refine ⟨rfl, F', D', m, fr', r1, fun i hi => ?_, h6.1.trans (r2.below h4 h6.2), Nat.le_trans h6.2 r2.size⟩
  rcases r3 i hi with h | h
  · exact h4 i h
  · exact Nat.le_trans h6.2 h

theorem flag_any (b : Bool) (k v : Int) (hk : (k = 6 ∧ v = 64) ∨ (k = 7 ∧ v = 128) ∨ (k = 10 ∧ v = 1024) ∨ (k = 11 ∧ v = 2048)) (w : World) (r : Int) (hr : (if b then v else 0) = r) :
    Calls Try.prog 81 #[.bool b, .int .i64 k] w fun e w' => e = .returned (.int .u64 r) ∧ ∃ x, w' = ext w x := by
  subst hr
  cases b
  · go_enter Try.func81, Try.ntmps81
    go_wp2
    go_ret
    exact ⟨rfl, up_to⟩
  · rcases hk with ⟨rfl, rfl⟩ | ⟨rfl, rfl⟩ | ⟨rfl, rfl⟩ | ⟨rfl, rfl⟩
    all_goals
      go_enter Try.func81, Try.ntmps81
      go_wp2
      go_ret
      exact ⟨rfl, up_to⟩

theorem renc9 (w : World) : Calls Try.prog 60 #[.agg #[.int .i8 2, .int .i64 9, .bool false, .bool false, .bool true, .bool true]] w fun e w' => e = .returned (.tuple #[.int .u64 38979, .int .i64 0]) ∧ ∃ x, w' = ext w x := by
  go_enter Try.func60, Try.ntmps60
  go_wp2_with fail
  refine wp_region_ext_lit (by kernel_rfl) (by kernel_rfl) ?_
  repeat (go_big_quiet_step (first
    | (go_at_call 81; with_reducible exact extq (flag_any true 6 64 (by simp) _ 64 rfl))
    | (go_at_call 81; with_reducible exact extq (flag_any false 7 128 (by simp) _ 0 rfl))
    | (go_at_call 81; with_reducible exact extq (flag_any false 10 1024 (by simp) _ 0 rfl))
    | (go_at_call 81; with_reducible exact extq (flag_any true 11 2048 (by simp) _ 2048 rfl))))
  refine wpQuiet_nil ?_
  rintro _ ⟨x, rfl⟩
  go_wp2_with fail
  have hb : bits BinOp.or IntKind.u64 (bits BinOp.or IntKind.u64 (bits BinOp.or IntKind.u64 (bits BinOp.or IntKind.u64 (bits BinOp.or IntKind.u64 3 36864) 64) 0) 0) 2048 = 38979 := by decide
  go_ret2
  exact ⟨by rw [hb]; rfl, up_to⟩

def made0 : Nat → Nat := fun _ => 0
def made1 : Nat → Nat := updN made0 512 8195
def made2 : Nat → Nat := updN made1 1024 12291
def made3 : Nat → Nat := updN made2 1536 16387
def made4 : Nat → Nat := updN made3 2048 38979
def madeN : Nat → Nat → Nat
  | 0 | 1 => made0
  | 2 => made1
  | 3 => made2
  | _ => made3

set_option maxRecDepth 100000 in
set_option maxHeartbeats 2000000 in
theorem made_any (w : World) : Calls Try.prog 32 #[] w fun e w' => ∃ b c, e = .returned (.tuple #[.pointer (some ⟨b, 0, none⟩), .bool true]) ∧ MemOf w w' b 16 made4 c := by
  have b1 : bits .or .u64 8192 3 = 8195 := by decide
  have b2 : bits .or .u64 12288 3 = 12291 := by decide
  have b3 : bits .or .u64 16384 3 = 16387 := by decide
  go_enter Try.func32, Try.ntmps32
  go_wp2_with fail
  refine (mnew_any 16 (by decide) (by decide) _).mono ?_
  rintro e w1 ⟨b, rfl, F, D, m, fr, hM, hF, x1, e1⟩
  have H1 : Hid (MemOf w w1 b 16 (madeN 1) (1 - 1)) := Lib.hid ⟨F, D, m, fr, hM, hF, by rw [e1]; exact (Up.refl w).ext _⟩
  clear hM hF e1
  go_wp2_with fail
  go_loopw [4, 5] (fun s k wr => s = .bool true ∧ ∃ j : Nat, 1 ≤ j ∧ j ≤ 4 ∧ k = .int .u64 (j : Int) ∧ Hid (MemOf w wr b 16 (madeN j) (j - 1))) (fun _ k _ => (4 - intOf k).toNat)
  case atStart => exact ⟨rfl, 1, by omega, by omega, rfl, H1⟩
  case round =>
    clear H1
    obtain ⟨rfl, j, j1, j4, rfl, HM⟩ := hrel
    rcases (by omega : j = 1 ∨ j = 2 ∨ j = 3 ∨ j = 4) with rfl | rfl | rfl | rfl
    · go_wp2_with fail
      refine (mem_w (HM.out.below up_below) (by decide) 512 (by decide) 8195 (by decide) (by decide) made1 rfl).mono ?_
      rintro e w2 ⟨rfl, h2⟩
      have H2 : Hid (MemOf w w2 b 16 (madeN 2) (2 - 1)) := Lib.hid h2
      clear h2
      go_wp2_with fail
      go_roundw
      case rel => exact ⟨rfl, 2, by omega, by omega, rfl, H2⟩
      case measure => simp [intOf]
    · go_wp2_with fail
      refine (mem_w (HM.out.below up_below) (by decide) 1024 (by decide) 12291 (by decide) (by decide) made2 rfl).mono ?_
      rintro e w2 ⟨rfl, h2⟩
      have H2 : Hid (MemOf w w2 b 16 (madeN 3) (3 - 1)) := Lib.hid h2
      clear h2
      go_wp2_with fail
      go_roundw
      case rel => exact ⟨rfl, 3, by omega, by omega, rfl, H2⟩
      case measure => simp [intOf]
    · go_wp2_with fail
      refine (mem_w (HM.out.below up_below) (by decide) 1536 (by decide) 16387 (by decide) (by decide) made3 rfl).mono ?_
      rintro e w2 ⟨rfl, h2⟩
      have H2 : Hid (MemOf w w2 b 16 (madeN 4) (4 - 1)) := Lib.hid h2
      clear h2
      go_wp2_with fail
      go_roundw
      case rel => exact ⟨rfl, 4, by omega, by omega, rfl, H2⟩
      case measure => simp [intOf]
    · go_wp2_with (go_at_call 60; with_reducible refine (renc9 _).mono ?_; rintro e w' ⟨rfl, z, rfl⟩)
      refine (mem_w (HM.out.below up_below) (by decide) 2048 (by decide) 38979 (by decide) (by decide) made4 rfl).mono ?_
      rintro e w2 ⟨rfl, h2⟩
      have H2 := Lib.hid h2
      clear h2
      go_wp2_with fail
      go_ret2
      exact ⟨b, _, rfl, H2.out⟩
end Go.Proofs.Ytcjklghjnbhcdaa
