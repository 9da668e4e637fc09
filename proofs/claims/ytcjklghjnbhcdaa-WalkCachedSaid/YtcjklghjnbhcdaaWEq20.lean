/- Two equal values of twenty cells compare as equal. -/
import Derived.Test.YtcjklghjnbhcdaaWNextU
namespace Go.Proofs.Ytcjklghjnbhcdaa
open Go.RowKit

/-- Cells of an api.Read. -/
def ReadC (N : Array Value) : Prop := ∃ (b0 : Bool) (i1 i2 i3 i4 : Int) (b5 : Bool) (i6 i7 i8 i9 : Int) (b10 : Bool) (i11 i12 i13 : Int) (b14 b15 : Bool) (i16 i17 : Int) (b18 : Bool) (i19 : Int),
  N = #[.bool b0, .int .i64 i1, .int .u64 i2, .int .i8 i3, .int .i64 i4, .bool b5, .int .i64 i6, .int .i8 i7, .int .u64 i8, .int .i64 i9, .bool b10, .int .i64 i11, .int .u64 i12, .int .i64 i13, .bool b14, .bool b15, .int .u64 i16, .int .i8 i17, .bool b18, .int .u64 i19]
theorem nextC_read (o : Bool) (a p l f : Int) (X : Nat) : ReadC (nextC o a p l f X) := by
  unfold nextC; repeat' split
  all_goals exact ⟨_, _, _, _, _, _, _, _, _, _, _, _, _, _, _, _, _, _, _, _, rfl⟩

theorem ReadC.cells {N : Array Value} (h : ReadC N) : ∃ (b0 : Bool) (i1 : Int) (i2 : Int) (i3 : Int) (i4 : Int) (b5 : Bool) (i6 : Int) (i7 : Int) (i8 : Int) (i9 : Int) (b10 : Bool) (i11 : Int) (i12 : Int) (i13 : Int) (b14 : Bool) (b15 : Bool) (i16 : Int) (i17 : Int) (b18 : Bool) (i19 : Int), (∀ h : 0 < N.size, N[0] = .bool b0) ∧ (∀ h : 1 < N.size, N[1] = .int .i64 i1) ∧ (∀ h : 2 < N.size, N[2] = .int .u64 i2) ∧ (∀ h : 3 < N.size, N[3] = .int .i8 i3) ∧ (∀ h : 4 < N.size, N[4] = .int .i64 i4) ∧ (∀ h : 5 < N.size, N[5] = .bool b5) ∧ (∀ h : 6 < N.size, N[6] = .int .i64 i6) ∧ (∀ h : 7 < N.size, N[7] = .int .i8 i7) ∧ (∀ h : 8 < N.size, N[8] = .int .u64 i8) ∧ (∀ h : 9 < N.size, N[9] = .int .i64 i9) ∧ (∀ h : 10 < N.size, N[10] = .bool b10) ∧ (∀ h : 11 < N.size, N[11] = .int .i64 i11) ∧ (∀ h : 12 < N.size, N[12] = .int .u64 i12) ∧ (∀ h : 13 < N.size, N[13] = .int .i64 i13) ∧ (∀ h : 14 < N.size, N[14] = .bool b14) ∧ (∀ h : 15 < N.size, N[15] = .bool b15) ∧ (∀ h : 16 < N.size, N[16] = .int .u64 i16) ∧ (∀ h : 17 < N.size, N[17] = .int .i8 i17) ∧ (∀ h : 18 < N.size, N[18] = .bool b18) ∧ (∀ h : 19 < N.size, N[19] = .int .u64 i19) := by
  obtain ⟨b0, i1, i2, i3, i4, b5, i6, i7, i8, i9, b10, i11, i12, i13, b14, b15, i16, i17, b18, i19, rfl⟩ := h
  exact ⟨b0, i1, i2, i3, i4, b5, i6, i7, i8, i9, b10, i11, i12, i13, b14, b15, i16, i17, b18, i19, fun _ => rfl, fun _ => rfl, fun _ => rfl, fun _ => rfl, fun _ => rfl, fun _ => rfl, fun _ => rfl, fun _ => rfl, fun _ => rfl, fun _ => rfl, fun _ => rfl, fun _ => rfl, fun _ => rfl, fun _ => rfl, fun _ => rfl, fun _ => rfl, fun _ => rfl, fun _ => rfl, fun _ => rfl, fun _ => rfl⟩
end Go.Proofs.Ytcjklghjnbhcdaa
