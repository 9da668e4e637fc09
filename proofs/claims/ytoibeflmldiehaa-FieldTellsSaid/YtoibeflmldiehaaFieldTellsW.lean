/- FieldTells walks to true. -/
import Derived.Test.YtoibeflmldiehaaRef01b
namespace Go.Proofs.Ytoibeflmldiehaa
open Go.RowKit

theorem tells_one (x v hi lo : Int) (x0 : 0 ≤ x) (x1 : x < 18446744073709551616) (v0 : 0 ≤ v) (v1 : v < 18446744073709551616) (p e g o s : Int) (f : Bool)
    (h1 : putR x hi lo v = .tuple #[.int .u64 p, .int .i64 e]) (h2 : getOr x hi lo = g) (h3 : onesOr hi lo = o) (h4 : fitsB v hi lo = f) (h5 : signOr x hi = s) (W : World) :
    Calls Try.prog 8 #[.int .u64 x, .int .u64 v, .int .i64 hi, .int .i64 lo] W fun e w' => e = .returned (.bool true) ∧ ∃ x, w' = ext W x := by
  cases f
  all_goals
    go_enter Try.func8, Try.ntmps8
    go_wp2_with (first
      | (go_at_call 30; refine (Put_to _ _ _ _ x0 x1 v0 v1 _ h1 _).mono ?_; rintro e w' ⟨rfl, x, rfl⟩)
      | (go_at_call 31; refine (refPut_to _ _ _ _ x0 x1 v0 v1 _ h1 _).mono ?_; rintro e w' ⟨rfl, x, rfl⟩)
      | (go_at_call 32; refine (Get_any _ _ _ x0 x1 _).mono ?_; rintro e w' ⟨rfl, x, rfl⟩)
      | (go_at_call 33; refine (refGet_any _ _ _ x0 x1 _).mono ?_; rintro e w' ⟨rfl, x, rfl⟩)
      | (go_at_call 34; refine (Ones_any _ _ _).mono ?_; rintro e w' ⟨rfl, x, rfl⟩)
      | (go_at_call 35; refine (refOnes_any _ _ _).mono ?_; rintro e w' ⟨rfl, x, rfl⟩)
      | (go_at_call 36; refine (Fits_any _ _ _ v0 v1 _).mono ?_; rintro e w' ⟨rfl, x, rfl⟩)
      | (go_at_call 37; refine (refFits_any _ _ _ v0 v1 _).mono ?_; rintro e w' ⟨rfl, x, rfl⟩)
      | (go_at_call 38; refine (Sign_any _ _ x0 _).mono ?_; rintro e w' ⟨rfl, x, rfl⟩)
      | (go_at_call 39; refine (refSign_any _ _ x0 x1 _).mono ?_; rintro e w' ⟨rfl, x, rfl⟩)
      | (go_at_call 29; refine (wakes1 _).mono ?_; rintro e w' ⟨rfl, x, rfl⟩))
    go_ret; exact ⟨rfl, up_to⟩

theorem FieldTells_walk (x v hi lo : Int) (a1 : (Lit.int .u64 x).wf = true) (a2 : (Lit.int .u64 v).wf = true) (_ : (Lit.int .i64 hi).wf = true) (_ : (Lit.int .i64 lo).wf = true) (W : World) :
    Calls Try.prog 8 #[.int .u64 x, .int .u64 v, .int .i64 hi, .int .i64 lo] W fun e w' => e = .returned (.bool true) ∧ ∃ x, w' = ext W x := by
  obtain ⟨x0, x1⟩ := bd_u64 a1
  obtain ⟨v0, v1⟩ := bd_u64 a2
  cases hf : fitsB v hi lo with
  | false => exact tells_one x v hi lo x0 x1 v0 v1 x 2 _ _ _ _ (by simp [putR, hf]) rfl rfl hf rfl W
  | true => exact tells_one x v hi lo x0 x1 v0 v1 (putV x hi lo v) 0 _ _ _ _ (by simp [putR, hf]) rfl rfl hf rfl W
end Go.Proofs.Ytoibeflmldiehaa
