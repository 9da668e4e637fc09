/- A slice of acts, as a list. -/
import Derived.Test.YtpolilljglfkoaaCastH
namespace Go.Proofs.Ytpolilljglfkoaa
open Go.RowKit

/-- What a cast is asked. -/
structure A5 where
  kind : Int
  core : Int
  k : Int
  a : Int
  p : Int
abbrev A5.c0 (x : A5) : Value := .int .i64 x.kind
abbrev A5.c1 (x : A5) : Value := .int .i64 x.core
abbrev A5.c2 (x : A5) : Value := .int .i8 x.k
abbrev A5.c3 (x : A5) : Value := .int .i64 x.a
abbrev A5.c4 (x : A5) : Value := .int .u64 x.p
/-- A slice value holds acts. -/
def Acts (W : World) (v : Value) (l : List A5) : Prop := ∃ ad cap, v = .slice ad l.length cap ∧ ∀ j x, l[j]? = some x → ∃ b o, ad = some ⟨b, o, none⟩ ∧ b < W.heap.size ∧
  W.cell? ⟨b, o + j * 5, none⟩ = some x.c0 ∧ W.cell? ⟨b, o + j * 5 + 1, none⟩ = some x.c1 ∧ W.cell? ⟨b, o + j * 5 + 2, none⟩ = some x.c2 ∧ W.cell? ⟨b, o + j * 5 + 3, none⟩ = some x.c3 ∧ W.cell? ⟨b, o + j * 5 + 4, none⟩ = some x.c4
end Go.Proofs.Ytpolilljglfkoaa
