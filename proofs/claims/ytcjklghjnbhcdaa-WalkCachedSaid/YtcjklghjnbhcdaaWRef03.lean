/- What the document's descriptors are. -/
import Derived.Test.YtcjklghjnbhcdaaWTouch
import Derived.Test.YtcjklghjnbhcdaaWRef01
namespace Go.Proofs.Ytcjklghjnbhcdaa
open Go.RowKit

def fl (x : Bool) (n : Int) : Int := if x then n else 0
theorem rflag_any (x : Bool) (k : Nat) (hk : k = 6 ∨ k = 7 ∨ k = 10 ∨ k = 11) (kk : Int) (hkk : (k : Int) = kk) (n : Int) (hn : ((2 ^ k : Nat) : Int) = n) (w : World) (r : Int) (hr : fl x n = r) :
    Calls Try.prog 81 #[.bool x, .int .i64 kk] w fun e w' => e = .returned (.int .u64 r) ∧ ∃ y, w' = ext w y := by
  subst hkk hr hn
  cases x
  · go_enter Try.func81, Try.ntmps81
    go_wp2
    go_ret
    exact ⟨rfl, up_to⟩
  · rcases hk with rfl | rfl | rfl | rfl
    all_goals
      go_enter Try.func81, Try.ntmps81
      go_wp2
      go_ret
      exact ⟨rfl, up_to⟩

def encV (f : Int) (u r a g : Bool) : Int := 3 + f * 4096 + fl u 64 + fl r 128 + fl a 1024 + fl g 2048
theorem enc_or : ∀ f : Fin 64, ∀ u r a g : Bool, bits .or .u64 3 ((f.val : Int) * 4096) = 3 + (f.val : Int) * 4096 ∧ bits .or .u64 (3 + (f.val : Int) * 4096) (fl u 64) = 3 + (f.val : Int) * 4096 + fl u 64 ∧
    bits .or .u64 (3 + (f.val : Int) * 4096 + fl u 64) (fl r 128) = 3 + (f.val : Int) * 4096 + fl u 64 + fl r 128 ∧ bits .or .u64 (3 + (f.val : Int) * 4096 + fl u 64 + fl r 128) (fl a 1024) = 3 + (f.val : Int) * 4096 + fl u 64 + fl r 128 + fl a 1024 ∧
    bits .or .u64 (3 + (f.val : Int) * 4096 + fl u 64 + fl r 128 + fl a 1024) (fl g 2048) = encV f.val u r a g := by decide +kernel

set_option maxRecDepth 20000 in
set_option maxHeartbeats 4000000 in
theorem renc_any (k : Int) (f : Nat) (hf : f < 64) (a r u g : Bool) (hk : k = 2 ∨ (k = 1 ∧ a = false ∧ r = false ∧ u = false ∧ g = false)) (w : World) (v : Int) (hv : encV f u r a g = v) :
    Calls Try.prog 60 #[(⟨k, f, a, r, u, g⟩ : D6).v] w fun e w' => e = .returned (.tuple #[.int .u64 v, .int .i64 0]) ∧ ∃ y, w' = ext w y := by
  obtain ⟨o1, o2, o3, o4, o5⟩ := enc_or ⟨f, hf⟩ u r a g
  simp only at o1 o2 o3 o4 o5
  rw [hv] at o5
  generalize 3 + (f : Int) * 4096 + fl u 64 + fl r 128 + fl a 1024 = v4 at o4 o5
  generalize 3 + (f : Int) * 4096 + fl u 64 + fl r 128 = v3 at o3 o4
  generalize 3 + (f : Int) * 4096 + fl u 64 = v2 at o2 o3
  generalize 3 + (f : Int) * 4096 = v1 at o1 o2
  obtain ⟨fu, hu⟩ : ∃ q, fl u 64 = q := ⟨_, rfl⟩
  obtain ⟨fr, hr⟩ : ∃ q, fl r 128 = q := ⟨_, rfl⟩
  obtain ⟨fa, ha⟩ : ∃ q, fl a 1024 = q := ⟨_, rfl⟩
  obtain ⟨fg, hg⟩ : ∃ q, fl g 2048 = q := ⟨_, rfl⟩
  rw [hu] at o2; rw [hr] at o3; rw [ha] at o4; rw [hg] at o5
  have HU := Lib.hid hu; have HR := Lib.hid hr; have HA := Lib.hid ha; have HG := Lib.hid hg
  have hfz : (f : Int) < 64 := by omega
  clear hu hr ha hg hf hv
  rcases hk with rfl | ⟨rfl, rfl, rfl, rfl, rfl⟩
  · cases a <;> cases r <;> cases u <;> cases g
    all_goals
      go_enter Try.func60, Try.ntmps60
      go_wp2
      refine wp_region_ext_lit (by kernel_rfl) (by kernel_rfl) ?_
      repeat (go_big_quiet_step (((first | (go_at_call 81; with_reducible exact extq (rflag_any _ 6 (by decide) 6 rfl 64 rfl _ fu HU.out)) | (go_at_call 81; with_reducible exact extq (rflag_any _ 7 (by decide) 7 rfl 128 rfl _ fr HR.out)) | (go_at_call 81; with_reducible exact extq (rflag_any _ 10 (by decide) 10 rfl 1024 rfl _ fa HA.out)) | (go_at_call 81; with_reducible exact extq (rflag_any _ 11 (by decide) 11 rfl 2048 rfl _ fg HG.out))))))
      refine wpQuiet_nil ?_
      rintro _ ⟨x, rfl⟩
      go_wp2
      go_ret2
      exact ⟨rfl, up_to⟩
  · go_enter Try.func60, Try.ntmps60
    go_wp2
    refine wp_region_ext_lit (by kernel_rfl) (by kernel_rfl) ?_
    repeat (go_big_quiet_step (((first | (go_at_call 81; with_reducible exact extq (rflag_any _ 6 (by decide) 6 rfl 64 rfl _ fu HU.out)) | (go_at_call 81; with_reducible exact extq (rflag_any _ 7 (by decide) 7 rfl 128 rfl _ fr HR.out)) | (go_at_call 81; with_reducible exact extq (rflag_any _ 10 (by decide) 10 rfl 1024 rfl _ fa HA.out)) | (go_at_call 81; with_reducible exact extq (rflag_any _ 11 (by decide) 11 rfl 2048 rfl _ fg HG.out))))))
    refine wpQuiet_nil ?_
    rintro _ ⟨x, rfl⟩
    go_wp2
    go_ret2
    exact ⟨rfl, up_to⟩
end Go.Proofs.Ytcjklghjnbhcdaa
