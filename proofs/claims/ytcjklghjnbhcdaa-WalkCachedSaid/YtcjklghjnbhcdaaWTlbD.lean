/- slices.Clone of a Step-row. -/
import Derived.Test.YtcjklghjnbhcdaaWTlbC
namespace Go.Proofs.Ytcjklghjnbhcdaa
open Go.RowKit

theorem infoS : (Try.prog.info? 54).map (fun i => (i.zero, i.size, i.bytes)) = some (some (.agg #[.int .i64 0, .int .i8 0, .int .u64 0, .int .i64 0]), 4, 32) := by kernel_rfl

theorem sown_new {α : Type} {enc : α → List Value} (w : World) (t : TypeId) (base : Nat) (hb : base ≤ w.heap.size) : Own enc (w.alloc (.cells #[] t)) base (.slice (some ⟨w.heap.size, 0, none⟩) 0 0) [] :=
  .inr ⟨w.heap.size, 0, 0, #[], t, rfl, hb, Nat.le_refl _, heap_alloc_new w _, by simp, fun j x h => by simp at h⟩

end Go.Proofs.Ytcjklghjnbhcdaa
