/-
  No cell of these rows narrows 'for every input' (looked for: loops, veiled, ifaces, maps, wideKeys, modest, calm, conditions, laid).
  DERIVED. THE GIVEN ROWS OF THIS SEAT. 6 by the template 'for every input the law returns true; each argument reads behind the call as it read before'; 0 by the template 'total and deterministic' (their statements: YtcjklghjnbhcdaaTotals.lean).
  GIVEN WITH THE SEED: the statements are not yours to turn. If you find one false, say at which input.
  Laid BY PROGRAM, IN A SANDBOX (cutbox-rows.mjs): the forced cells as the released guide's own fill.sh prints them over the translation 252d6de6f6a30d27… (all of the seat's roots in one cut). By AI agents, Wed Nov 11 2026. No macro, syntax, notation, axiom, sorry.
-/
import Derived.Test.YtcjklghjnbhcdaaChecked
import GoSem.Claim
import GoSem.ClaimJoined
import GoSem.ClaimMapViews
import Derived.JoinedTies
import Derived.KernelRfl
namespace Go.Proofs.Ytcjklghjnbhcdaa
/- THE CELL 'sum', in the pinned program and in every row, IS THE sha256 OF THE DUMP (.gsa) THAT YtcjklghjnbhcdaaProg.lean LOADS. Nothing in Lean hashes anything: it is a label: what it is worth is what the hold of that sum in a sandbox is worth. -/
noncomputable def Try.pinned : Pinned := { name := "ytcjklghjnbhcdaa", sum := "252d6de6f6a30d27609da06556abccb06bf86d4fd30f6e97b2ac0e4ea272e41a", checked := Try.checked }
namespace Rows
def none {H : Type} : Left H := { results := [], args := [] }

/-- 'tenementlaw29.WatchFewer': WHATEVER THE INPUT: true; the input reads as it did. -/
def watchFewerSpec : ChangeSpec := { name := "watchFewer", fn := fun _ => fun
  | [d1, d2, d3, d4] => { results := [.lit (.bool true)], args := [d1, d2, d3, d4] }
  | _ => none }
def watchFewerRow : OpenClaim := { program := "ytcjklghjnbhcdaa", sum := "252d6de6f6a30d27609da06556abccb06bf86d4fd30f6e97b2ac0e4ea272e41a", func := "tenement/tenementlaw29.WatchFewer", spec := "watchFewer", unfollowed := true, recurses := true, plainKeys := false, apart := false }
def WatchFewerSaid : Prop := watchFewerRow.holds Try.pinned (OpenSpec.ofChange watchFewerSpec)

/-- ITS FALSE NEIGHBOUR: 'it returns false'. Refute it at one input. -/
def watchFewerWrong : ChangeSpec := { name := "watchFewer", fn := fun _ => fun
  | [d1, d2, d3, d4] => { results := [.lit (.bool false)], args := [d1, d2, d3, d4] }
  | _ => none }
def WatchFewerWrongFalsely : Prop := watchFewerRow.holds Try.pinned (OpenSpec.ofChange watchFewerWrong)

/-- 'tenementlaw12.WalkBegins': WHATEVER THE INPUT: true; the input reads as it did. -/
def walkBeginsSpec : ChangeSpec := { name := "walkBegins", fn := fun _ => fun
  | [d1, d2, d3, d4, d5] => { results := [.lit (.bool true)], args := [d1, d2, d3, d4, d5] }
  | _ => none }
def walkBeginsRow : OpenClaim := { program := "ytcjklghjnbhcdaa", sum := "252d6de6f6a30d27609da06556abccb06bf86d4fd30f6e97b2ac0e4ea272e41a", func := "tenement/tenementlaw12.WalkBegins", spec := "walkBegins", unfollowed := true, recurses := true, plainKeys := false, apart := false }
def WalkBeginsSaid : Prop := walkBeginsRow.holds Try.pinned (OpenSpec.ofChange walkBeginsSpec)

/-- ITS FALSE NEIGHBOUR: 'it returns false'. Refute it at one input. -/
def walkBeginsWrong : ChangeSpec := { name := "walkBegins", fn := fun _ => fun
  | [d1, d2, d3, d4, d5] => { results := [.lit (.bool false)], args := [d1, d2, d3, d4, d5] }
  | _ => none }
def WalkBeginsWrongFalsely : Prop := walkBeginsRow.holds Try.pinned (OpenSpec.ofChange walkBeginsWrong)

/-- 'tenementlaw12.WalkNext': WHATEVER THE INPUT: true; the input reads as it did. -/
def walkNextSpec : ChangeSpec := { name := "walkNext", fn := fun _ => fun
  | [d1, d2] => { results := [.lit (.bool true)], args := [d1, d2] }
  | _ => none }
def walkNextRow : OpenClaim := { program := "ytcjklghjnbhcdaa", sum := "252d6de6f6a30d27609da06556abccb06bf86d4fd30f6e97b2ac0e4ea272e41a", func := "tenement/tenementlaw12.WalkNext", spec := "walkNext", unfollowed := true, recurses := true, plainKeys := false, apart := false }
def WalkNextSaid : Prop := walkNextRow.holds Try.pinned (OpenSpec.ofChange walkNextSpec)

/-- ITS FALSE NEIGHBOUR: 'it returns false'. Refute it at one input. -/
def walkNextWrong : ChangeSpec := { name := "walkNext", fn := fun _ => fun
  | [d1, d2] => { results := [.lit (.bool false)], args := [d1, d2] }
  | _ => none }
def WalkNextWrongFalsely : Prop := walkNextRow.holds Try.pinned (OpenSpec.ofChange walkNextWrong)

/-- 'tenementlaw12.WalkCached': WHATEVER THE INPUT: true; the input reads as it did. -/
def walkCachedSpec : ChangeSpec := { name := "walkCached", fn := fun _ => fun
  | [d1, d2, d3, d4, d5, d6] => { results := [.lit (.bool true)], args := [d1, d2, d3, d4, d5, d6] }
  | _ => none }
def walkCachedRow : OpenClaim := { program := "ytcjklghjnbhcdaa", sum := "252d6de6f6a30d27609da06556abccb06bf86d4fd30f6e97b2ac0e4ea272e41a", func := "tenement/tenementlaw12.WalkCached", spec := "walkCached", unfollowed := true, recurses := true, plainKeys := false, apart := false }
def WalkCachedSaid : Prop := walkCachedRow.holds Try.pinned (OpenSpec.ofChange walkCachedSpec)

/-- ITS FALSE NEIGHBOUR: 'it returns false'. Refute it at one input. -/
def walkCachedWrong : ChangeSpec := { name := "walkCached", fn := fun _ => fun
  | [d1, d2, d3, d4, d5, d6] => { results := [.lit (.bool false)], args := [d1, d2, d3, d4, d5, d6] }
  | _ => none }
def WalkCachedWrongFalsely : Prop := walkCachedRow.holds Try.pinned (OpenSpec.ofChange walkCachedWrong)

/-- 'tenementlaw12.WalkTouch': WHATEVER THE INPUT: true; the input reads as it did. -/
def walkTouchSpec : ChangeSpec := { name := "walkTouch", fn := fun _ => fun
  | [d1, d2, d3, d4] => { results := [.lit (.bool true)], args := [d1, d2, d3, d4] }
  | _ => none }
def walkTouchRow : OpenClaim := { program := "ytcjklghjnbhcdaa", sum := "252d6de6f6a30d27609da06556abccb06bf86d4fd30f6e97b2ac0e4ea272e41a", func := "tenement/tenementlaw12.WalkTouch", spec := "walkTouch", unfollowed := true, recurses := true, plainKeys := false, apart := false }
def WalkTouchSaid : Prop := walkTouchRow.holds Try.pinned (OpenSpec.ofChange walkTouchSpec)

/-- ITS FALSE NEIGHBOUR: 'it returns false'. Refute it at one input. -/
def walkTouchWrong : ChangeSpec := { name := "walkTouch", fn := fun _ => fun
  | [d1, d2, d3, d4] => { results := [.lit (.bool false)], args := [d1, d2, d3, d4] }
  | _ => none }
def WalkTouchWrongFalsely : Prop := walkTouchRow.holds Try.pinned (OpenSpec.ofChange walkTouchWrong)

/-- 'tenementlaw29.WatchFar': WHATEVER THE INPUT: true; the input reads as it did. -/
def watchFarSpec : ChangeSpec := { name := "watchFar", fn := fun _ => fun
  | [d1, d2, d3, d4, d5, d6] => { results := [.lit (.bool true)], args := [d1, d2, d3, d4, d5, d6] }
  | _ => none }
def watchFarRow : OpenClaim := { program := "ytcjklghjnbhcdaa", sum := "252d6de6f6a30d27609da06556abccb06bf86d4fd30f6e97b2ac0e4ea272e41a", func := "tenement/tenementlaw29.WatchFar", spec := "watchFar", unfollowed := true, recurses := true, plainKeys := false, apart := false }
def WatchFarSaid : Prop := watchFarRow.holds Try.pinned (OpenSpec.ofChange watchFarSpec)

/-- ITS FALSE NEIGHBOUR: 'it returns false'. Refute it at one input. -/
def watchFarWrong : ChangeSpec := { name := "watchFar", fn := fun _ => fun
  | [d1, d2, d3, d4, d5, d6] => { results := [.lit (.bool false)], args := [d1, d2, d3, d4, d5, d6] }
  | _ => none }
def WatchFarWrongFalsely : Prop := watchFarRow.holds Try.pinned (OpenSpec.ofChange watchFarWrong)

/- THE SECOND FORM. 'bulk': how many values and letters a reading holds, each counted each time it is reached (what is shared counts as often as it is met; a slice's spare places count too). A statement '..UptoSaid' is the law's where the arguments, and the package variables that the reading takes, are together of bulk at most 1048576: NARROWER than '..Said'. Prove '..Said' where nothing that the law and all that it calls make is longer than what came in: it says more and counts as full. Else prove '..UptoSaid'. A law counts once. -/
mutual
def uptoBulk {H : Type} : DataW H → Nat
  | .lit (.string bytes) => bytes.length + 1
  | .lit _ => 1
  | .nil => 1
  | .ptr d => uptoBulk d + 1
  | .slice elems spare => uptoBulkAll elems + uptoBulkAll spare + 1
  | .agg parts => uptoBulkAll parts + 1
  | .iface _ d => uptoBulk d + 1
  | .map entries => uptoBulkEntries entries + 1
  | .held _ => 1
def uptoBulkAll {H : Type} : List (DataW H) → Nat
  | [] => 0
  | d :: r => uptoBulk d + uptoBulkAll r
def uptoBulkEntries {H : Type} : List (Lit × DataW H) → Nat
  | [] => 0
  | x :: r => uptoBulkEntry x + uptoBulkEntries r
def uptoBulkEntry {H : Type} : Lit × DataW H → Nat
  | (.string bytes, d) => bytes.length + uptoBulk d + 1
  | (_, d) => uptoBulk d + 1
 end
def uptoSmall : (H : Type) → List (DataW H) → Bool := fun _ ds => decide (uptoBulkAll ds ≤ 1048576)
def OpenSpec.upto (s : _root_.Go.ChangeSpec) : _root_.Go.OpenSpec := { _root_.Go.OpenSpec.ofChange s with cond := some uptoSmall }

/-- 'tenementlaw29.WatchFewer', WHERE WHAT IT READS IS OF BULK AT MOST 1048576: true; the input reads as it did. -/
def watchFewerUptoRow : OpenClaim := { program := "ytcjklghjnbhcdaa", sum := "252d6de6f6a30d27609da06556abccb06bf86d4fd30f6e97b2ac0e4ea272e41a", func := "tenement/tenementlaw29.WatchFewer", spec := "watchFewer", unfollowed := true, recurses := true, plainKeys := false, apart := false, narrowed := true }
def WatchFewerUptoSaid : Prop := watchFewerUptoRow.holds Try.pinned (OpenSpec.upto watchFewerSpec)

/-- 'tenementlaw12.WalkBegins', WHERE WHAT IT READS IS OF BULK AT MOST 1048576: true; the input reads as it did. -/
def walkBeginsUptoRow : OpenClaim := { program := "ytcjklghjnbhcdaa", sum := "252d6de6f6a30d27609da06556abccb06bf86d4fd30f6e97b2ac0e4ea272e41a", func := "tenement/tenementlaw12.WalkBegins", spec := "walkBegins", unfollowed := true, recurses := true, plainKeys := false, apart := false, narrowed := true }
def WalkBeginsUptoSaid : Prop := walkBeginsUptoRow.holds Try.pinned (OpenSpec.upto walkBeginsSpec)

/-- 'tenementlaw12.WalkNext', WHERE WHAT IT READS IS OF BULK AT MOST 1048576: true; the input reads as it did. -/
def walkNextUptoRow : OpenClaim := { program := "ytcjklghjnbhcdaa", sum := "252d6de6f6a30d27609da06556abccb06bf86d4fd30f6e97b2ac0e4ea272e41a", func := "tenement/tenementlaw12.WalkNext", spec := "walkNext", unfollowed := true, recurses := true, plainKeys := false, apart := false, narrowed := true }
def WalkNextUptoSaid : Prop := walkNextUptoRow.holds Try.pinned (OpenSpec.upto walkNextSpec)

/-- 'tenementlaw12.WalkCached', WHERE WHAT IT READS IS OF BULK AT MOST 1048576: true; the input reads as it did. -/
def walkCachedUptoRow : OpenClaim := { program := "ytcjklghjnbhcdaa", sum := "252d6de6f6a30d27609da06556abccb06bf86d4fd30f6e97b2ac0e4ea272e41a", func := "tenement/tenementlaw12.WalkCached", spec := "walkCached", unfollowed := true, recurses := true, plainKeys := false, apart := false, narrowed := true }
def WalkCachedUptoSaid : Prop := walkCachedUptoRow.holds Try.pinned (OpenSpec.upto walkCachedSpec)

/-- 'tenementlaw12.WalkTouch', WHERE WHAT IT READS IS OF BULK AT MOST 1048576: true; the input reads as it did. -/
def walkTouchUptoRow : OpenClaim := { program := "ytcjklghjnbhcdaa", sum := "252d6de6f6a30d27609da06556abccb06bf86d4fd30f6e97b2ac0e4ea272e41a", func := "tenement/tenementlaw12.WalkTouch", spec := "walkTouch", unfollowed := true, recurses := true, plainKeys := false, apart := false, narrowed := true }
def WalkTouchUptoSaid : Prop := walkTouchUptoRow.holds Try.pinned (OpenSpec.upto walkTouchSpec)

/-- 'tenementlaw29.WatchFar', WHERE WHAT IT READS IS OF BULK AT MOST 1048576: true; the input reads as it did. -/
def watchFarUptoRow : OpenClaim := { program := "ytcjklghjnbhcdaa", sum := "252d6de6f6a30d27609da06556abccb06bf86d4fd30f6e97b2ac0e4ea272e41a", func := "tenement/tenementlaw29.WatchFar", spec := "watchFar", unfollowed := true, recurses := true, plainKeys := false, apart := false, narrowed := true }
def WatchFarUptoSaid : Prop := watchFarUptoRow.holds Try.pinned (OpenSpec.upto watchFarSpec)

end Rows
end Go.Proofs.Ytcjklghjnbhcdaa
