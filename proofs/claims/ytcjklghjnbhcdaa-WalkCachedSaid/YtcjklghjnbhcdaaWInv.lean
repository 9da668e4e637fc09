/- What the functions of package inval come to. -/
import Derived.Test.YtcjklghjnbhcdaaExt
namespace Go.Proofs.Ytcjklghjnbhcdaa
open Go.RowKit

def mayB (k a p : Int) : Bool :=
  decide (0 ≤ a ∧ a ≤ 255 ∧ p < 34359738368 ∧ ((k = 0 ∧ a = 0 ∧ p = 0) ∨ (k = 1 ∧ p = 0) ∨ k = 2))

abbrev tlbi (k a p : Int) : Value := .agg #[.int .i8 k, .int .i64 a, .int .u64 p]

def begB (L pf q : Int) : Bool := if L = 1 then decide (q / 262144 = pf) else if L = 2 then decide (q / 512 = pf) else decide (q = pf)

abbrev stp (a l p f : Int) : Value := .agg #[.int .i64 a, .int .i8 l, .int .u64 p, .int .i64 f]

def hitsB (k a p asid : Int) (s : Bool) : Bool := mayB k a p && (k == 0 || (a == asid && (k == 1 || s)))

abbrev tlb (a p f : Int) (ro : Bool) : Value := .agg #[.int .i64 a, .int .u64 p, .int .i64 f, .bool ro]

def hitsStepB (k a p sa L pf : Int) : Bool := if L < 1 ∨ 3 < L then mayB k a p && k == 0 else hitsB k a p sa (begB L pf p)

end Go.Proofs.Ytcjklghjnbhcdaa
