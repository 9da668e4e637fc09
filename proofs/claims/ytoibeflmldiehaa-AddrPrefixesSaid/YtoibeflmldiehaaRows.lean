/-
  No cell of these rows narrows 'for every input' (looked for: loops, veiled, ifaces, maps, wideKeys, modest, calm, conditions, laid).
  DERIVED. THE GIVEN ROWS OF THIS SEAT. 12 by the template 'for every input the law returns true; each argument reads behind the call as it read before'; 0 by the template 'total and deterministic' (their statements: YtoibeflmldiehaaTotals.lean).
  GIVEN WITH THE SEED: the statements are not yours to turn. If you find one false, say at which input.
  Laid BY PROGRAM, IN A SANDBOX (cutbox-rows.mjs): the forced cells as the released guide's own fill.sh prints them over the translation 491ed63cee991905… (all of the seat's roots in one cut). By AI agents, Wed Nov 11 2026. No macro, syntax, notation, axiom, sorry.
-/
import Derived.Test.YtoibeflmldiehaaChecked
import GoSem.Claim
import GoSem.ClaimJoined
import GoSem.ClaimMapViews
import Derived.JoinedTies
import Derived.KernelRfl
namespace Go.Proofs.Ytoibeflmldiehaa
/- THE CELL 'sum', in the pinned program and in every row, IS THE sha256 OF THE DUMP (.gsa) THAT YtoibeflmldiehaaProg.lean LOADS. Nothing in Lean hashes anything: it is a label: what it is worth is what the hold of that sum in a sandbox is worth. -/
noncomputable def Try.pinned : Pinned := { name := "ytoibeflmldiehaa", sum := "491ed63cee991905930c6e2ac83a701b629310908644e2f7f21014848ac8e248", checked := Try.checked }
namespace Rows
def none {H : Type} : Left H := { results := [], args := [] }

/-- 'tenementlaw05.InvalSplit': WHATEVER THE INPUT: true; the input reads as it did. -/
def invalSplitSpec : ChangeSpec := { name := "invalSplit", fn := fun _ => fun
  | [d1, d2, d3] => { results := [.lit (.bool true)], args := [d1, d2, d3] }
  | _ => none }
def invalSplitRow : OpenClaim := { program := "ytoibeflmldiehaa", sum := "491ed63cee991905930c6e2ac83a701b629310908644e2f7f21014848ac8e248", func := "tenement/tenementlaw05.InvalSplit", spec := "invalSplit", unfollowed := true, recurses := true, apart := false }
def InvalSplitSaid : Prop := invalSplitRow.holds Try.pinned (OpenSpec.ofChange invalSplitSpec)

/-- ITS FALSE NEIGHBOUR: 'it returns false'. Refute it at one input. -/
def invalSplitWrong : ChangeSpec := { name := "invalSplit", fn := fun _ => fun
  | [d1, d2, d3] => { results := [.lit (.bool false)], args := [d1, d2, d3] }
  | _ => none }
def InvalSplitWrongFalsely : Prop := invalSplitRow.holds Try.pinned (OpenSpec.ofChange invalSplitWrong)

/-- 'tenementlaw05.InvalBack': WHATEVER THE INPUT: true; the input reads as it did. -/
def invalBackSpec : ChangeSpec := { name := "invalBack", fn := fun _ => fun
  | [d1, d2] => { results := [.lit (.bool true)], args := [d1, d2] }
  | _ => none }
def invalBackRow : OpenClaim := { program := "ytoibeflmldiehaa", sum := "491ed63cee991905930c6e2ac83a701b629310908644e2f7f21014848ac8e248", func := "tenement/tenementlaw05.InvalBack", spec := "invalBack", unfollowed := true, recurses := true, apart := false }
def InvalBackSaid : Prop := invalBackRow.holds Try.pinned (OpenSpec.ofChange invalBackSpec)

/-- ITS FALSE NEIGHBOUR: 'it returns false'. Refute it at one input. -/
def invalBackWrong : ChangeSpec := { name := "invalBack", fn := fun _ => fun
  | [d1, d2] => { results := [.lit (.bool false)], args := [d1, d2] }
  | _ => none }
def InvalBackWrongFalsely : Prop := invalBackRow.holds Try.pinned (OpenSpec.ofChange invalBackWrong)

/-- 'tenementlaw02.AddrIndices': WHATEVER THE INPUT: true; the input reads as it did. -/
def addrIndicesSpec : ChangeSpec := { name := "addrIndices", fn := fun _ => fun
  | [d1, d2, d3] => { results := [.lit (.bool true)], args := [d1, d2, d3] }
  | _ => none }
def addrIndicesRow : OpenClaim := { program := "ytoibeflmldiehaa", sum := "491ed63cee991905930c6e2ac83a701b629310908644e2f7f21014848ac8e248", func := "tenement/tenementlaw02.AddrIndices", spec := "addrIndices", apart := false }
def AddrIndicesSaid : Prop := addrIndicesRow.holds Try.pinned (OpenSpec.ofChange addrIndicesSpec)

/-- ITS FALSE NEIGHBOUR: 'it returns false'. Refute it at one input. -/
def addrIndicesWrong : ChangeSpec := { name := "addrIndices", fn := fun _ => fun
  | [d1, d2, d3] => { results := [.lit (.bool false)], args := [d1, d2, d3] }
  | _ => none }
def AddrIndicesWrongFalsely : Prop := addrIndicesRow.holds Try.pinned (OpenSpec.ofChange addrIndicesWrong)

/-- 'tenementlaw02.AddrPrefixes': WHATEVER THE INPUT: true; the input reads as it did. -/
def addrPrefixesSpec : ChangeSpec := { name := "addrPrefixes", fn := fun _ => fun
  | [d1, d2, d3] => { results := [.lit (.bool true)], args := [d1, d2, d3] }
  | _ => none }
def addrPrefixesRow : OpenClaim := { program := "ytoibeflmldiehaa", sum := "491ed63cee991905930c6e2ac83a701b629310908644e2f7f21014848ac8e248", func := "tenement/tenementlaw02.AddrPrefixes", spec := "addrPrefixes", apart := false }
def AddrPrefixesSaid : Prop := addrPrefixesRow.holds Try.pinned (OpenSpec.ofChange addrPrefixesSpec)

/-- ITS FALSE NEIGHBOUR: 'it returns false'. Refute it at one input. -/
def addrPrefixesWrong : ChangeSpec := { name := "addrPrefixes", fn := fun _ => fun
  | [d1, d2, d3] => { results := [.lit (.bool false)], args := [d1, d2, d3] }
  | _ => none }
def AddrPrefixesWrongFalsely : Prop := addrPrefixesRow.holds Try.pinned (OpenSpec.ofChange addrPrefixesWrong)

/-- 'tenementlaw01.FieldEach': WHATEVER THE INPUT: true; the input reads as it did. -/
def fieldEachSpec : ChangeSpec := { name := "fieldEach", fn := fun _ => fun
  | [d1, d2] => { results := [.lit (.bool true)], args := [d1, d2] }
  | _ => none }
def fieldEachRow : OpenClaim := { program := "ytoibeflmldiehaa", sum := "491ed63cee991905930c6e2ac83a701b629310908644e2f7f21014848ac8e248", func := "tenement/tenementlaw01.FieldEach", spec := "fieldEach", unfollowed := true, recurses := true, apart := false }
def FieldEachSaid : Prop := fieldEachRow.holds Try.pinned (OpenSpec.ofChange fieldEachSpec)

/-- ITS FALSE NEIGHBOUR: 'it returns false'. Refute it at one input. -/
def fieldEachWrong : ChangeSpec := { name := "fieldEach", fn := fun _ => fun
  | [d1, d2] => { results := [.lit (.bool false)], args := [d1, d2] }
  | _ => none }
def FieldEachWrongFalsely : Prop := fieldEachRow.holds Try.pinned (OpenSpec.ofChange fieldEachWrong)

/-- 'tenementlaw01.FieldTells': WHATEVER THE INPUT: true; the input reads as it did. -/
def fieldTellsSpec : ChangeSpec := { name := "fieldTells", fn := fun _ => fun
  | [d1, d2, d3, d4] => { results := [.lit (.bool true)], args := [d1, d2, d3, d4] }
  | _ => none }
def fieldTellsRow : OpenClaim := { program := "ytoibeflmldiehaa", sum := "491ed63cee991905930c6e2ac83a701b629310908644e2f7f21014848ac8e248", func := "tenement/tenementlaw01.FieldTells", spec := "fieldTells", unfollowed := true, recurses := true, apart := false }
def FieldTellsSaid : Prop := fieldTellsRow.holds Try.pinned (OpenSpec.ofChange fieldTellsSpec)

/-- ITS FALSE NEIGHBOUR: 'it returns false'. Refute it at one input. -/
def fieldTellsWrong : ChangeSpec := { name := "fieldTells", fn := fun _ => fun
  | [d1, d2, d3, d4] => { results := [.lit (.bool false)], args := [d1, d2, d3, d4] }
  | _ => none }
def FieldTellsWrongFalsely : Prop := fieldTellsRow.holds Try.pinned (OpenSpec.ofChange fieldTellsWrong)

/-- 'tenementlaw01.FieldBack': WHATEVER THE INPUT: true; the input reads as it did. -/
def fieldBackSpec : ChangeSpec := { name := "fieldBack", fn := fun _ => fun
  | [d1, d2, d3, d4, d5, d6, d7] => { results := [.lit (.bool true)], args := [d1, d2, d3, d4, d5, d6, d7] }
  | _ => none }
def fieldBackRow : OpenClaim := { program := "ytoibeflmldiehaa", sum := "491ed63cee991905930c6e2ac83a701b629310908644e2f7f21014848ac8e248", func := "tenement/tenementlaw01.FieldBack", spec := "fieldBack", unfollowed := true, recurses := true, apart := false }
def FieldBackSaid : Prop := fieldBackRow.holds Try.pinned (OpenSpec.ofChange fieldBackSpec)

/-- ITS FALSE NEIGHBOUR: 'it returns false'. Refute it at one input. -/
def fieldBackWrong : ChangeSpec := { name := "fieldBack", fn := fun _ => fun
  | [d1, d2, d3, d4, d5, d6, d7] => { results := [.lit (.bool false)], args := [d1, d2, d3, d4, d5, d6, d7] }
  | _ => none }
def FieldBackWrongFalsely : Prop := fieldBackRow.holds Try.pinned (OpenSpec.ofChange fieldBackWrong)

/-- 'tenementlaw01.FieldHalves': WHATEVER THE INPUT: true; the input reads as it did. -/
def fieldHalvesSpec : ChangeSpec := { name := "fieldHalves", fn := fun _ => fun
  | [d1, d2] => { results := [.lit (.bool true)], args := [d1, d2] }
  | _ => none }
def fieldHalvesRow : OpenClaim := { program := "ytoibeflmldiehaa", sum := "491ed63cee991905930c6e2ac83a701b629310908644e2f7f21014848ac8e248", func := "tenement/tenementlaw01.FieldHalves", spec := "fieldHalves", unfollowed := true, recurses := true, apart := false }
def FieldHalvesSaid : Prop := fieldHalvesRow.holds Try.pinned (OpenSpec.ofChange fieldHalvesSpec)

/-- ITS FALSE NEIGHBOUR: 'it returns false'. Refute it at one input. -/
def fieldHalvesWrong : ChangeSpec := { name := "fieldHalves", fn := fun _ => fun
  | [d1, d2] => { results := [.lit (.bool false)], args := [d1, d2] }
  | _ => none }
def FieldHalvesWrongFalsely : Prop := fieldHalvesRow.holds Try.pinned (OpenSpec.ofChange fieldHalvesWrong)

/-- 'tenementlaw02.AddrOrder': WHATEVER THE INPUT: true; the input reads as it did. -/
def addrOrderSpec : ChangeSpec := { name := "addrOrder", fn := fun _ => fun
  | [d1, d2, d3, d4] => { results := [.lit (.bool true)], args := [d1, d2, d3, d4] }
  | _ => none }
def addrOrderRow : OpenClaim := { program := "ytoibeflmldiehaa", sum := "491ed63cee991905930c6e2ac83a701b629310908644e2f7f21014848ac8e248", func := "tenement/tenementlaw02.AddrOrder", spec := "addrOrder", apart := false }
def AddrOrderSaid : Prop := addrOrderRow.holds Try.pinned (OpenSpec.ofChange addrOrderSpec)

/-- ITS FALSE NEIGHBOUR: 'it returns false'. Refute it at one input. -/
def addrOrderWrong : ChangeSpec := { name := "addrOrder", fn := fun _ => fun
  | [d1, d2, d3, d4] => { results := [.lit (.bool false)], args := [d1, d2, d3, d4] }
  | _ => none }
def AddrOrderWrongFalsely : Prop := addrOrderRow.holds Try.pinned (OpenSpec.ofChange addrOrderWrong)

/-- 'tenementlaw02.AddrPages': WHATEVER THE INPUT: true; the input reads as it did. -/
def addrPagesSpec : ChangeSpec := { name := "addrPages", fn := fun _ => fun
  | [d1, d2, d3] => { results := [.lit (.bool true)], args := [d1, d2, d3] }
  | _ => none }
def addrPagesRow : OpenClaim := { program := "ytoibeflmldiehaa", sum := "491ed63cee991905930c6e2ac83a701b629310908644e2f7f21014848ac8e248", func := "tenement/tenementlaw02.AddrPages", spec := "addrPages", apart := false }
def AddrPagesSaid : Prop := addrPagesRow.holds Try.pinned (OpenSpec.ofChange addrPagesSpec)

/-- ITS FALSE NEIGHBOUR: 'it returns false'. Refute it at one input. -/
def addrPagesWrong : ChangeSpec := { name := "addrPages", fn := fun _ => fun
  | [d1, d2, d3] => { results := [.lit (.bool false)], args := [d1, d2, d3] }
  | _ => none }
def AddrPagesWrongFalsely : Prop := addrPagesRow.holds Try.pinned (OpenSpec.ofChange addrPagesWrong)

/-- 'tenementlaw02.AddrWords': WHATEVER THE INPUT: true; the input reads as it did. -/
def addrWordsSpec : ChangeSpec := { name := "addrWords", fn := fun _ => fun
  | [d1, d2, d3] => { results := [.lit (.bool true)], args := [d1, d2, d3] }
  | _ => none }
def addrWordsRow : OpenClaim := { program := "ytoibeflmldiehaa", sum := "491ed63cee991905930c6e2ac83a701b629310908644e2f7f21014848ac8e248", func := "tenement/tenementlaw02.AddrWords", spec := "addrWords", apart := false }
def AddrWordsSaid : Prop := addrWordsRow.holds Try.pinned (OpenSpec.ofChange addrWordsSpec)

/-- ITS FALSE NEIGHBOUR: 'it returns false'. Refute it at one input. -/
def addrWordsWrong : ChangeSpec := { name := "addrWords", fn := fun _ => fun
  | [d1, d2, d3] => { results := [.lit (.bool false)], args := [d1, d2, d3] }
  | _ => none }
def AddrWordsWrongFalsely : Prop := addrWordsRow.holds Try.pinned (OpenSpec.ofChange addrWordsWrong)

/-- 'tenementlaw02.AddrBack': WHATEVER THE INPUT: true; the input reads as it did. -/
def addrBackSpec : ChangeSpec := { name := "addrBack", fn := fun _ => fun
  | [d1, d2, d3] => { results := [.lit (.bool true)], args := [d1, d2, d3] }
  | _ => none }
def addrBackRow : OpenClaim := { program := "ytoibeflmldiehaa", sum := "491ed63cee991905930c6e2ac83a701b629310908644e2f7f21014848ac8e248", func := "tenement/tenementlaw02.AddrBack", spec := "addrBack", apart := false }
def AddrBackSaid : Prop := addrBackRow.holds Try.pinned (OpenSpec.ofChange addrBackSpec)

/-- ITS FALSE NEIGHBOUR: 'it returns false'. Refute it at one input. -/
def addrBackWrong : ChangeSpec := { name := "addrBack", fn := fun _ => fun
  | [d1, d2, d3] => { results := [.lit (.bool false)], args := [d1, d2, d3] }
  | _ => none }
def AddrBackWrongFalsely : Prop := addrBackRow.holds Try.pinned (OpenSpec.ofChange addrBackWrong)

/- THE SECOND FORM. 'bulk': how many values and letters a reading holds, each counted each time it is reached (what is shared counts as often as it is met; a slice's spare places count too). A statement '..UptoSaid' is the law's where the arguments, and the package variables that the reading takes, are together of bulk at most 1048576: NARROWER than '..Said'. Prove '..Said' where nothing that the law and all that it calls make is longer than what came in: it says more and counts as full. Else prove '..UptoSaid'. A law counts once. -/
mutual
def uptoBulk {H : Type} : DataW H → Nat
  | .lit (.string bytes) => bytes.length + 1
  | .lit _ => 1
  | .nil => 1
  | .ptr d => uptoBulk d + 1
  | .slice elems spare => uptoBulkAll elems + uptoBulkAll spare + 1
  | .agg parts => uptoBulkAll parts + 1
  | .iface _ d => uptoBulk d + 1
  | .map entries => uptoBulkEntries entries + 1
  | .held _ => 1
def uptoBulkAll {H : Type} : List (DataW H) → Nat
  | [] => 0
  | d :: r => uptoBulk d + uptoBulkAll r
def uptoBulkEntries {H : Type} : List (Lit × DataW H) → Nat
  | [] => 0
  | x :: r => uptoBulkEntry x + uptoBulkEntries r
def uptoBulkEntry {H : Type} : Lit × DataW H → Nat
  | (.string bytes, d) => bytes.length + uptoBulk d + 1
  | (_, d) => uptoBulk d + 1
 end
def uptoSmall : (H : Type) → List (DataW H) → Bool := fun _ ds => decide (uptoBulkAll ds ≤ 1048576)
def OpenSpec.upto (s : _root_.Go.ChangeSpec) : _root_.Go.OpenSpec := { _root_.Go.OpenSpec.ofChange s with cond := some uptoSmall }

/-- 'tenementlaw05.InvalSplit', WHERE WHAT IT READS IS OF BULK AT MOST 1048576: true; the input reads as it did. -/
def invalSplitUptoRow : OpenClaim := { program := "ytoibeflmldiehaa", sum := "491ed63cee991905930c6e2ac83a701b629310908644e2f7f21014848ac8e248", func := "tenement/tenementlaw05.InvalSplit", spec := "invalSplit", unfollowed := true, recurses := true, apart := false, narrowed := true }
def InvalSplitUptoSaid : Prop := invalSplitUptoRow.holds Try.pinned (OpenSpec.upto invalSplitSpec)

/-- 'tenementlaw05.InvalBack', WHERE WHAT IT READS IS OF BULK AT MOST 1048576: true; the input reads as it did. -/
def invalBackUptoRow : OpenClaim := { program := "ytoibeflmldiehaa", sum := "491ed63cee991905930c6e2ac83a701b629310908644e2f7f21014848ac8e248", func := "tenement/tenementlaw05.InvalBack", spec := "invalBack", unfollowed := true, recurses := true, apart := false, narrowed := true }
def InvalBackUptoSaid : Prop := invalBackUptoRow.holds Try.pinned (OpenSpec.upto invalBackSpec)

/-- 'tenementlaw02.AddrIndices', WHERE WHAT IT READS IS OF BULK AT MOST 1048576: true; the input reads as it did. -/
def addrIndicesUptoRow : OpenClaim := { program := "ytoibeflmldiehaa", sum := "491ed63cee991905930c6e2ac83a701b629310908644e2f7f21014848ac8e248", func := "tenement/tenementlaw02.AddrIndices", spec := "addrIndices", apart := false, narrowed := true }
def AddrIndicesUptoSaid : Prop := addrIndicesUptoRow.holds Try.pinned (OpenSpec.upto addrIndicesSpec)

/-- 'tenementlaw02.AddrPrefixes', WHERE WHAT IT READS IS OF BULK AT MOST 1048576: true; the input reads as it did. -/
def addrPrefixesUptoRow : OpenClaim := { program := "ytoibeflmldiehaa", sum := "491ed63cee991905930c6e2ac83a701b629310908644e2f7f21014848ac8e248", func := "tenement/tenementlaw02.AddrPrefixes", spec := "addrPrefixes", apart := false, narrowed := true }
def AddrPrefixesUptoSaid : Prop := addrPrefixesUptoRow.holds Try.pinned (OpenSpec.upto addrPrefixesSpec)

/-- 'tenementlaw01.FieldEach', WHERE WHAT IT READS IS OF BULK AT MOST 1048576: true; the input reads as it did. -/
def fieldEachUptoRow : OpenClaim := { program := "ytoibeflmldiehaa", sum := "491ed63cee991905930c6e2ac83a701b629310908644e2f7f21014848ac8e248", func := "tenement/tenementlaw01.FieldEach", spec := "fieldEach", unfollowed := true, recurses := true, apart := false, narrowed := true }
def FieldEachUptoSaid : Prop := fieldEachUptoRow.holds Try.pinned (OpenSpec.upto fieldEachSpec)

/-- 'tenementlaw01.FieldTells', WHERE WHAT IT READS IS OF BULK AT MOST 1048576: true; the input reads as it did. -/
def fieldTellsUptoRow : OpenClaim := { program := "ytoibeflmldiehaa", sum := "491ed63cee991905930c6e2ac83a701b629310908644e2f7f21014848ac8e248", func := "tenement/tenementlaw01.FieldTells", spec := "fieldTells", unfollowed := true, recurses := true, apart := false, narrowed := true }
def FieldTellsUptoSaid : Prop := fieldTellsUptoRow.holds Try.pinned (OpenSpec.upto fieldTellsSpec)

/-- 'tenementlaw01.FieldBack', WHERE WHAT IT READS IS OF BULK AT MOST 1048576: true; the input reads as it did. -/
def fieldBackUptoRow : OpenClaim := { program := "ytoibeflmldiehaa", sum := "491ed63cee991905930c6e2ac83a701b629310908644e2f7f21014848ac8e248", func := "tenement/tenementlaw01.FieldBack", spec := "fieldBack", unfollowed := true, recurses := true, apart := false, narrowed := true }
def FieldBackUptoSaid : Prop := fieldBackUptoRow.holds Try.pinned (OpenSpec.upto fieldBackSpec)

/-- 'tenementlaw01.FieldHalves', WHERE WHAT IT READS IS OF BULK AT MOST 1048576: true; the input reads as it did. -/
def fieldHalvesUptoRow : OpenClaim := { program := "ytoibeflmldiehaa", sum := "491ed63cee991905930c6e2ac83a701b629310908644e2f7f21014848ac8e248", func := "tenement/tenementlaw01.FieldHalves", spec := "fieldHalves", unfollowed := true, recurses := true, apart := false, narrowed := true }
def FieldHalvesUptoSaid : Prop := fieldHalvesUptoRow.holds Try.pinned (OpenSpec.upto fieldHalvesSpec)

/-- 'tenementlaw02.AddrOrder', WHERE WHAT IT READS IS OF BULK AT MOST 1048576: true; the input reads as it did. -/
def addrOrderUptoRow : OpenClaim := { program := "ytoibeflmldiehaa", sum := "491ed63cee991905930c6e2ac83a701b629310908644e2f7f21014848ac8e248", func := "tenement/tenementlaw02.AddrOrder", spec := "addrOrder", apart := false, narrowed := true }
def AddrOrderUptoSaid : Prop := addrOrderUptoRow.holds Try.pinned (OpenSpec.upto addrOrderSpec)

/-- 'tenementlaw02.AddrPages', WHERE WHAT IT READS IS OF BULK AT MOST 1048576: true; the input reads as it did. -/
def addrPagesUptoRow : OpenClaim := { program := "ytoibeflmldiehaa", sum := "491ed63cee991905930c6e2ac83a701b629310908644e2f7f21014848ac8e248", func := "tenement/tenementlaw02.AddrPages", spec := "addrPages", apart := false, narrowed := true }
def AddrPagesUptoSaid : Prop := addrPagesUptoRow.holds Try.pinned (OpenSpec.upto addrPagesSpec)

/-- 'tenementlaw02.AddrWords', WHERE WHAT IT READS IS OF BULK AT MOST 1048576: true; the input reads as it did. -/
def addrWordsUptoRow : OpenClaim := { program := "ytoibeflmldiehaa", sum := "491ed63cee991905930c6e2ac83a701b629310908644e2f7f21014848ac8e248", func := "tenement/tenementlaw02.AddrWords", spec := "addrWords", apart := false, narrowed := true }
def AddrWordsUptoSaid : Prop := addrWordsUptoRow.holds Try.pinned (OpenSpec.upto addrWordsSpec)

/-- 'tenementlaw02.AddrBack', WHERE WHAT IT READS IS OF BULK AT MOST 1048576: true; the input reads as it did. -/
def addrBackUptoRow : OpenClaim := { program := "ytoibeflmldiehaa", sum := "491ed63cee991905930c6e2ac83a701b629310908644e2f7f21014848ac8e248", func := "tenement/tenementlaw02.AddrBack", spec := "addrBack", apart := false, narrowed := true }
def AddrBackUptoSaid : Prop := addrBackUptoRow.holds Try.pinned (OpenSpec.upto addrBackSpec)

end Rows
end Go.Proofs.Ytoibeflmldiehaa
