/-
  No cell of these rows narrows 'for every input' (looked for: loops, veiled, ifaces, maps, wideKeys, modest, calm, conditions, laid).
  DERIVED. THE GIVEN ROWS OF THIS SEAT. 13 by the template 'for every input the law returns true; each argument reads behind the call as it read before'; 0 by the template 'total and deterministic' (their statements: YtggjheapjklhgaaTotals.lean).
  GIVEN WITH THE SEED: the statements are not yours to turn. If you find one false, say at which input.
  Laid BY PROGRAM, IN A SANDBOX (cutbox-rows.mjs): the forced cells as the released guide's own fill.sh prints them over the translation 27660c3d8b05d3eb… (all of the seat's roots in one cut). By AI agents, Wed Nov 11 2026. No macro, syntax, notation, axiom, sorry.
-/
import Derived.Test.YtggjheapjklhgaaChecked
import GoSem.Claim
import GoSem.ClaimJoined
import GoSem.ClaimMapViews
import Derived.JoinedTies
import Derived.KernelRfl
namespace Go.Proofs.Ytggjheapjklhgaa
/- THE CELL 'sum', in the pinned program and in every row, IS THE sha256 OF THE DUMP (.gsa) THAT YtggjheapjklhgaaProg.lean LOADS. Nothing in Lean hashes anything: it is a label: what it is worth is what the hold of that sum in a sandbox is worth. -/
noncomputable def Try.pinned : Pinned := { name := "ytggjheapjklhgaa", sum := "27660c3d8b05d3ebcff1f16a642e7ad14457ffbb28e704f607ed98ae8afbeedc", checked := Try.checked }
namespace Rows
def none {H : Type} : Left H := { results := [], args := [] }

/-- 'laws.FnReady': WHATEVER THE INPUT: true; the input reads as it did. -/
def fnReadySpec : ChangeSpec := { name := "fnReady", fn := fun _ => fun
  | [d] => { results := [.lit (.bool true)], args := [d] }
  | _ => none }
def fnReadyRow : OpenClaim := { program := "ytggjheapjklhgaa", sum := "27660c3d8b05d3ebcff1f16a642e7ad14457ffbb28e704f607ed98ae8afbeedc", func := "loop.example/g00977/laws.FnReady", spec := "fnReady", unfollowed := true, recurses := true, apart := false }
def FnReadySaid : Prop := fnReadyRow.holds Try.pinned (OpenSpec.ofChange fnReadySpec)

/-- ITS FALSE NEIGHBOUR: 'it returns false'. Refute it at one input. -/
def fnReadyWrong : ChangeSpec := { name := "fnReady", fn := fun _ => fun
  | [d] => { results := [.lit (.bool false)], args := [d] }
  | _ => none }
def FnReadyWrongFalsely : Prop := fnReadyRow.holds Try.pinned (OpenSpec.ofChange fnReadyWrong)

/-- 'laws.FnExactReadyAfter': WHATEVER THE INPUT: true; the input reads as it did. -/
def fnExactReadyAfterSpec : ChangeSpec := { name := "fnExactReadyAfter", fn := fun _ => fun
  | [d1, d2, d3] => { results := [.lit (.bool true)], args := [d1, d2, d3] }
  | _ => none }
def fnExactReadyAfterRow : OpenClaim := { program := "ytggjheapjklhgaa", sum := "27660c3d8b05d3ebcff1f16a642e7ad14457ffbb28e704f607ed98ae8afbeedc", func := "loop.example/g00977/laws.FnExactReadyAfter", spec := "fnExactReadyAfter", apart := false }
def FnExactReadyAfterSaid : Prop := fnExactReadyAfterRow.holds Try.pinned (OpenSpec.ofChange fnExactReadyAfterSpec)

/-- ITS FALSE NEIGHBOUR: 'it returns false'. Refute it at one input. -/
def fnExactReadyAfterWrong : ChangeSpec := { name := "fnExactReadyAfter", fn := fun _ => fun
  | [d1, d2, d3] => { results := [.lit (.bool false)], args := [d1, d2, d3] }
  | _ => none }
def FnExactReadyAfterWrongFalsely : Prop := fnExactReadyAfterRow.holds Try.pinned (OpenSpec.ofChange fnExactReadyAfterWrong)

/-- 'laws.FnStates': WHATEVER THE INPUT: true; the input reads as it did. -/
def fnStatesSpec : ChangeSpec := { name := "fnStates", fn := fun _ => fun
  | [d] => { results := [.lit (.bool true)], args := [d] }
  | _ => none }
def fnStatesRow : OpenClaim := { program := "ytggjheapjklhgaa", sum := "27660c3d8b05d3ebcff1f16a642e7ad14457ffbb28e704f607ed98ae8afbeedc", func := "loop.example/g00977/laws.FnStates", spec := "fnStates", apart := false }
def FnStatesSaid : Prop := fnStatesRow.holds Try.pinned (OpenSpec.ofChange fnStatesSpec)

/-- ITS FALSE NEIGHBOUR: 'it returns false'. Refute it at one input. -/
def fnStatesWrong : ChangeSpec := { name := "fnStates", fn := fun _ => fun
  | [d] => { results := [.lit (.bool false)], args := [d] }
  | _ => none }
def FnStatesWrongFalsely : Prop := fnStatesRow.holds Try.pinned (OpenSpec.ofChange fnStatesWrong)

/-- 'laws.FnExactRankAfter': WHATEVER THE INPUT: true; the input reads as it did. -/
def fnExactRankAfterSpec : ChangeSpec := { name := "fnExactRankAfter", fn := fun _ => fun
  | [d1, d2, d3] => { results := [.lit (.bool true)], args := [d1, d2, d3] }
  | _ => none }
def fnExactRankAfterRow : OpenClaim := { program := "ytggjheapjklhgaa", sum := "27660c3d8b05d3ebcff1f16a642e7ad14457ffbb28e704f607ed98ae8afbeedc", func := "loop.example/g00977/laws.FnExactRankAfter", spec := "fnExactRankAfter", apart := false }
def FnExactRankAfterSaid : Prop := fnExactRankAfterRow.holds Try.pinned (OpenSpec.ofChange fnExactRankAfterSpec)

/-- ITS FALSE NEIGHBOUR: 'it returns false'. Refute it at one input. -/
def fnExactRankAfterWrong : ChangeSpec := { name := "fnExactRankAfter", fn := fun _ => fun
  | [d1, d2, d3] => { results := [.lit (.bool false)], args := [d1, d2, d3] }
  | _ => none }
def FnExactRankAfterWrongFalsely : Prop := fnExactRankAfterRow.holds Try.pinned (OpenSpec.ofChange fnExactRankAfterWrong)

/-- 'laws.FnExactReadyOf': WHATEVER THE INPUT: true; the input reads as it did. -/
def fnExactReadyOfSpec : ChangeSpec := { name := "fnExactReadyOf", fn := fun _ => fun
  | [d1, d2] => { results := [.lit (.bool true)], args := [d1, d2] }
  | _ => none }
def fnExactReadyOfRow : OpenClaim := { program := "ytggjheapjklhgaa", sum := "27660c3d8b05d3ebcff1f16a642e7ad14457ffbb28e704f607ed98ae8afbeedc", func := "loop.example/g00977/laws.FnExactReadyOf", spec := "fnExactReadyOf", apart := false }
def FnExactReadyOfSaid : Prop := fnExactReadyOfRow.holds Try.pinned (OpenSpec.ofChange fnExactReadyOfSpec)

/-- ITS FALSE NEIGHBOUR: 'it returns false'. Refute it at one input. -/
def fnExactReadyOfWrong : ChangeSpec := { name := "fnExactReadyOf", fn := fun _ => fun
  | [d1, d2] => { results := [.lit (.bool false)], args := [d1, d2] }
  | _ => none }
def FnExactReadyOfWrongFalsely : Prop := fnExactReadyOfRow.holds Try.pinned (OpenSpec.ofChange fnExactReadyOfWrong)

/-- 'laws.FnExactTraceEnd': WHATEVER THE INPUT: true; the input reads as it did. -/
def fnExactTraceEndSpec : ChangeSpec := { name := "fnExactTraceEnd", fn := fun _ => fun
  | [d1, d2] => { results := [.lit (.bool true)], args := [d1, d2] }
  | _ => none }
def fnExactTraceEndRow : OpenClaim := { program := "ytggjheapjklhgaa", sum := "27660c3d8b05d3ebcff1f16a642e7ad14457ffbb28e704f607ed98ae8afbeedc", func := "loop.example/g00977/laws.FnExactTraceEnd", spec := "fnExactTraceEnd", apart := false }
def FnExactTraceEndSaid : Prop := fnExactTraceEndRow.holds Try.pinned (OpenSpec.ofChange fnExactTraceEndSpec)

/-- ITS FALSE NEIGHBOUR: 'it returns false'. Refute it at one input. -/
def fnExactTraceEndWrong : ChangeSpec := { name := "fnExactTraceEnd", fn := fun _ => fun
  | [d1, d2] => { results := [.lit (.bool false)], args := [d1, d2] }
  | _ => none }
def FnExactTraceEndWrongFalsely : Prop := fnExactTraceEndRow.holds Try.pinned (OpenSpec.ofChange fnExactTraceEndWrong)

/-- 'laws.FnExactReadyAt': WHATEVER THE INPUT: true; the input reads as it did. -/
def fnExactReadyAtSpec : ChangeSpec := { name := "fnExactReadyAt", fn := fun _ => fun
  | [d1, d2, d3, d4] => { results := [.lit (.bool true)], args := [d1, d2, d3, d4] }
  | _ => none }
def fnExactReadyAtRow : OpenClaim := { program := "ytggjheapjklhgaa", sum := "27660c3d8b05d3ebcff1f16a642e7ad14457ffbb28e704f607ed98ae8afbeedc", func := "loop.example/g00977/laws.FnExactReadyAt", spec := "fnExactReadyAt", unfollowed := true, recurses := true, apart := false }
def FnExactReadyAtSaid : Prop := fnExactReadyAtRow.holds Try.pinned (OpenSpec.ofChange fnExactReadyAtSpec)

/-- ITS FALSE NEIGHBOUR: 'it returns false'. Refute it at one input. -/
def fnExactReadyAtWrong : ChangeSpec := { name := "fnExactReadyAt", fn := fun _ => fun
  | [d1, d2, d3, d4] => { results := [.lit (.bool false)], args := [d1, d2, d3, d4] }
  | _ => none }
def FnExactReadyAtWrongFalsely : Prop := fnExactReadyAtRow.holds Try.pinned (OpenSpec.ofChange fnExactReadyAtWrong)

/-- 'laws.FnExactTraceFault': WHATEVER THE INPUT: true; the input reads as it did. -/
def fnExactTraceFaultSpec : ChangeSpec := { name := "fnExactTraceFault", fn := fun _ => fun
  | [d1, d2, d3] => { results := [.lit (.bool true)], args := [d1, d2, d3] }
  | _ => none }
def fnExactTraceFaultRow : OpenClaim := { program := "ytggjheapjklhgaa", sum := "27660c3d8b05d3ebcff1f16a642e7ad14457ffbb28e704f607ed98ae8afbeedc", func := "loop.example/g00977/laws.FnExactTraceFault", spec := "fnExactTraceFault", unfollowed := true, recurses := true, apart := false }
def FnExactTraceFaultSaid : Prop := fnExactTraceFaultRow.holds Try.pinned (OpenSpec.ofChange fnExactTraceFaultSpec)

/-- ITS FALSE NEIGHBOUR: 'it returns false'. Refute it at one input. -/
def fnExactTraceFaultWrong : ChangeSpec := { name := "fnExactTraceFault", fn := fun _ => fun
  | [d1, d2, d3] => { results := [.lit (.bool false)], args := [d1, d2, d3] }
  | _ => none }
def FnExactTraceFaultWrongFalsely : Prop := fnExactTraceFaultRow.holds Try.pinned (OpenSpec.ofChange fnExactTraceFaultWrong)

/-- 'laws.FnTraces': WHATEVER THE INPUT: true; the input reads as it did. -/
def fnTracesSpec : ChangeSpec := { name := "fnTraces", fn := fun _ => fun
  | [d] => { results := [.lit (.bool true)], args := [d] }
  | _ => none }
def fnTracesRow : OpenClaim := { program := "ytggjheapjklhgaa", sum := "27660c3d8b05d3ebcff1f16a642e7ad14457ffbb28e704f607ed98ae8afbeedc", func := "loop.example/g00977/laws.FnTraces", spec := "fnTraces", unfollowed := true, recurses := true, apart := false }
def FnTracesSaid : Prop := fnTracesRow.holds Try.pinned (OpenSpec.ofChange fnTracesSpec)

/-- ITS FALSE NEIGHBOUR: 'it returns false'. Refute it at one input. -/
def fnTracesWrong : ChangeSpec := { name := "fnTraces", fn := fun _ => fun
  | [d] => { results := [.lit (.bool false)], args := [d] }
  | _ => none }
def FnTracesWrongFalsely : Prop := fnTracesRow.holds Try.pinned (OpenSpec.ofChange fnTracesWrong)

/-- 'laws.FnExactEarliestNext': WHATEVER THE INPUT: true; the input reads as it did. -/
def fnExactEarliestNextSpec : ChangeSpec := { name := "fnExactEarliestNext", fn := fun _ => fun
  | [d1, d2, d3, d4] => { results := [.lit (.bool true)], args := [d1, d2, d3, d4] }
  | _ => none }
def fnExactEarliestNextRow : OpenClaim := { program := "ytggjheapjklhgaa", sum := "27660c3d8b05d3ebcff1f16a642e7ad14457ffbb28e704f607ed98ae8afbeedc", func := "loop.example/g00977/laws.FnExactEarliestNext", spec := "fnExactEarliestNext", unfollowed := true, recurses := true, apart := false }
def FnExactEarliestNextSaid : Prop := fnExactEarliestNextRow.holds Try.pinned (OpenSpec.ofChange fnExactEarliestNextSpec)

/-- ITS FALSE NEIGHBOUR: 'it returns false'. Refute it at one input. -/
def fnExactEarliestNextWrong : ChangeSpec := { name := "fnExactEarliestNext", fn := fun _ => fun
  | [d1, d2, d3, d4] => { results := [.lit (.bool false)], args := [d1, d2, d3, d4] }
  | _ => none }
def FnExactEarliestNextWrongFalsely : Prop := fnExactEarliestNextRow.holds Try.pinned (OpenSpec.ofChange fnExactEarliestNextWrong)

/-- 'laws.FnEarliest': WHATEVER THE INPUT: true; the input reads as it did. -/
def fnEarliestSpec : ChangeSpec := { name := "fnEarliest", fn := fun _ => fun
  | [d] => { results := [.lit (.bool true)], args := [d] }
  | _ => none }
def fnEarliestRow : OpenClaim := { program := "ytggjheapjklhgaa", sum := "27660c3d8b05d3ebcff1f16a642e7ad14457ffbb28e704f607ed98ae8afbeedc", func := "loop.example/g00977/laws.FnEarliest", spec := "fnEarliest", unfollowed := true, recurses := true, apart := false }
def FnEarliestSaid : Prop := fnEarliestRow.holds Try.pinned (OpenSpec.ofChange fnEarliestSpec)

/-- ITS FALSE NEIGHBOUR: 'it returns false'. Refute it at one input. -/
def fnEarliestWrong : ChangeSpec := { name := "fnEarliest", fn := fun _ => fun
  | [d] => { results := [.lit (.bool false)], args := [d] }
  | _ => none }
def FnEarliestWrongFalsely : Prop := fnEarliestRow.holds Try.pinned (OpenSpec.ofChange fnEarliestWrong)

/-- 'laws.FnRowCycle': WHATEVER THE INPUT: true; the input reads as it did. -/
def fnRowCycleSpec : ChangeSpec := { name := "fnRowCycle", fn := fun _ => fun
  | [d] => { results := [.lit (.bool true)], args := [d] }
  | _ => none }
def fnRowCycleRow : OpenClaim := { program := "ytggjheapjklhgaa", sum := "27660c3d8b05d3ebcff1f16a642e7ad14457ffbb28e704f607ed98ae8afbeedc", func := "loop.example/g00977/laws.FnRowCycle", spec := "fnRowCycle", apart := false }
def FnRowCycleSaid : Prop := fnRowCycleRow.holds Try.pinned (OpenSpec.ofChange fnRowCycleSpec)

/-- ITS FALSE NEIGHBOUR: 'it returns false'. Refute it at one input. -/
def fnRowCycleWrong : ChangeSpec := { name := "fnRowCycle", fn := fun _ => fun
  | [d] => { results := [.lit (.bool false)], args := [d] }
  | _ => none }
def FnRowCycleWrongFalsely : Prop := fnRowCycleRow.holds Try.pinned (OpenSpec.ofChange fnRowCycleWrong)

/-- 'laws.FnGaps': WHATEVER THE INPUT: true; the input reads as it did. -/
def fnGapsSpec : ChangeSpec := { name := "fnGaps", fn := fun _ => fun
  | [d] => { results := [.lit (.bool true)], args := [d] }
  | _ => none }
def fnGapsRow : OpenClaim := { program := "ytggjheapjklhgaa", sum := "27660c3d8b05d3ebcff1f16a642e7ad14457ffbb28e704f607ed98ae8afbeedc", func := "loop.example/g00977/laws.FnGaps", spec := "fnGaps", unfollowed := true, recurses := true, apart := false }
def FnGapsSaid : Prop := fnGapsRow.holds Try.pinned (OpenSpec.ofChange fnGapsSpec)

/-- ITS FALSE NEIGHBOUR: 'it returns false'. Refute it at one input. -/
def fnGapsWrong : ChangeSpec := { name := "fnGaps", fn := fun _ => fun
  | [d] => { results := [.lit (.bool false)], args := [d] }
  | _ => none }
def FnGapsWrongFalsely : Prop := fnGapsRow.holds Try.pinned (OpenSpec.ofChange fnGapsWrong)

/- THE SECOND FORM. 'bulk': how many values and letters a reading holds, each counted each time it is reached (what is shared counts as often as it is met; a slice's spare places count too). A statement '..UptoSaid' is the law's where the arguments, and the package variables that the reading takes, are together of bulk at most 1048576: NARROWER than '..Said'. Prove '..Said' where nothing that the law and all that it calls make is longer than what came in: it says more and counts as full. Else prove '..UptoSaid'. A law counts once. -/
mutual
def uptoBulk {H : Type} : DataW H → Nat
  | .lit (.string bytes) => bytes.length + 1
  | .lit _ => 1
  | .nil => 1
  | .ptr d => uptoBulk d + 1
  | .slice elems spare => uptoBulkAll elems + uptoBulkAll spare + 1
  | .agg parts => uptoBulkAll parts + 1
  | .iface _ d => uptoBulk d + 1
  | .map entries => uptoBulkEntries entries + 1
  | .held _ => 1
def uptoBulkAll {H : Type} : List (DataW H) → Nat
  | [] => 0
  | d :: r => uptoBulk d + uptoBulkAll r
def uptoBulkEntries {H : Type} : List (Lit × DataW H) → Nat
  | [] => 0
  | x :: r => uptoBulkEntry x + uptoBulkEntries r
def uptoBulkEntry {H : Type} : Lit × DataW H → Nat
  | (.string bytes, d) => bytes.length + uptoBulk d + 1
  | (_, d) => uptoBulk d + 1
 end
def uptoSmall : (H : Type) → List (DataW H) → Bool := fun _ ds => decide (uptoBulkAll ds ≤ 1048576)
def OpenSpec.upto (s : _root_.Go.ChangeSpec) : _root_.Go.OpenSpec := { _root_.Go.OpenSpec.ofChange s with cond := some uptoSmall }

/-- 'laws.FnReady', WHERE WHAT IT READS IS OF BULK AT MOST 1048576: true; the input reads as it did. -/
def fnReadyUptoRow : OpenClaim := { program := "ytggjheapjklhgaa", sum := "27660c3d8b05d3ebcff1f16a642e7ad14457ffbb28e704f607ed98ae8afbeedc", func := "loop.example/g00977/laws.FnReady", spec := "fnReady", unfollowed := true, recurses := true, apart := false, narrowed := true }
def FnReadyUptoSaid : Prop := fnReadyUptoRow.holds Try.pinned (OpenSpec.upto fnReadySpec)

/-- 'laws.FnExactReadyAfter', WHERE WHAT IT READS IS OF BULK AT MOST 1048576: true; the input reads as it did. -/
def fnExactReadyAfterUptoRow : OpenClaim := { program := "ytggjheapjklhgaa", sum := "27660c3d8b05d3ebcff1f16a642e7ad14457ffbb28e704f607ed98ae8afbeedc", func := "loop.example/g00977/laws.FnExactReadyAfter", spec := "fnExactReadyAfter", apart := false, narrowed := true }
def FnExactReadyAfterUptoSaid : Prop := fnExactReadyAfterUptoRow.holds Try.pinned (OpenSpec.upto fnExactReadyAfterSpec)

/-- 'laws.FnStates', WHERE WHAT IT READS IS OF BULK AT MOST 1048576: true; the input reads as it did. -/
def fnStatesUptoRow : OpenClaim := { program := "ytggjheapjklhgaa", sum := "27660c3d8b05d3ebcff1f16a642e7ad14457ffbb28e704f607ed98ae8afbeedc", func := "loop.example/g00977/laws.FnStates", spec := "fnStates", apart := false, narrowed := true }
def FnStatesUptoSaid : Prop := fnStatesUptoRow.holds Try.pinned (OpenSpec.upto fnStatesSpec)

/-- 'laws.FnExactRankAfter', WHERE WHAT IT READS IS OF BULK AT MOST 1048576: true; the input reads as it did. -/
def fnExactRankAfterUptoRow : OpenClaim := { program := "ytggjheapjklhgaa", sum := "27660c3d8b05d3ebcff1f16a642e7ad14457ffbb28e704f607ed98ae8afbeedc", func := "loop.example/g00977/laws.FnExactRankAfter", spec := "fnExactRankAfter", apart := false, narrowed := true }
def FnExactRankAfterUptoSaid : Prop := fnExactRankAfterUptoRow.holds Try.pinned (OpenSpec.upto fnExactRankAfterSpec)

/-- 'laws.FnExactReadyOf', WHERE WHAT IT READS IS OF BULK AT MOST 1048576: true; the input reads as it did. -/
def fnExactReadyOfUptoRow : OpenClaim := { program := "ytggjheapjklhgaa", sum := "27660c3d8b05d3ebcff1f16a642e7ad14457ffbb28e704f607ed98ae8afbeedc", func := "loop.example/g00977/laws.FnExactReadyOf", spec := "fnExactReadyOf", apart := false, narrowed := true }
def FnExactReadyOfUptoSaid : Prop := fnExactReadyOfUptoRow.holds Try.pinned (OpenSpec.upto fnExactReadyOfSpec)

/-- 'laws.FnExactTraceEnd', WHERE WHAT IT READS IS OF BULK AT MOST 1048576: true; the input reads as it did. -/
def fnExactTraceEndUptoRow : OpenClaim := { program := "ytggjheapjklhgaa", sum := "27660c3d8b05d3ebcff1f16a642e7ad14457ffbb28e704f607ed98ae8afbeedc", func := "loop.example/g00977/laws.FnExactTraceEnd", spec := "fnExactTraceEnd", apart := false, narrowed := true }
def FnExactTraceEndUptoSaid : Prop := fnExactTraceEndUptoRow.holds Try.pinned (OpenSpec.upto fnExactTraceEndSpec)

/-- 'laws.FnExactReadyAt', WHERE WHAT IT READS IS OF BULK AT MOST 1048576: true; the input reads as it did. -/
def fnExactReadyAtUptoRow : OpenClaim := { program := "ytggjheapjklhgaa", sum := "27660c3d8b05d3ebcff1f16a642e7ad14457ffbb28e704f607ed98ae8afbeedc", func := "loop.example/g00977/laws.FnExactReadyAt", spec := "fnExactReadyAt", unfollowed := true, recurses := true, apart := false, narrowed := true }
def FnExactReadyAtUptoSaid : Prop := fnExactReadyAtUptoRow.holds Try.pinned (OpenSpec.upto fnExactReadyAtSpec)

/-- 'laws.FnExactTraceFault', WHERE WHAT IT READS IS OF BULK AT MOST 1048576: true; the input reads as it did. -/
def fnExactTraceFaultUptoRow : OpenClaim := { program := "ytggjheapjklhgaa", sum := "27660c3d8b05d3ebcff1f16a642e7ad14457ffbb28e704f607ed98ae8afbeedc", func := "loop.example/g00977/laws.FnExactTraceFault", spec := "fnExactTraceFault", unfollowed := true, recurses := true, apart := false, narrowed := true }
def FnExactTraceFaultUptoSaid : Prop := fnExactTraceFaultUptoRow.holds Try.pinned (OpenSpec.upto fnExactTraceFaultSpec)

/-- 'laws.FnTraces', WHERE WHAT IT READS IS OF BULK AT MOST 1048576: true; the input reads as it did. -/
def fnTracesUptoRow : OpenClaim := { program := "ytggjheapjklhgaa", sum := "27660c3d8b05d3ebcff1f16a642e7ad14457ffbb28e704f607ed98ae8afbeedc", func := "loop.example/g00977/laws.FnTraces", spec := "fnTraces", unfollowed := true, recurses := true, apart := false, narrowed := true }
def FnTracesUptoSaid : Prop := fnTracesUptoRow.holds Try.pinned (OpenSpec.upto fnTracesSpec)

/-- 'laws.FnExactEarliestNext', WHERE WHAT IT READS IS OF BULK AT MOST 1048576: true; the input reads as it did. -/
def fnExactEarliestNextUptoRow : OpenClaim := { program := "ytggjheapjklhgaa", sum := "27660c3d8b05d3ebcff1f16a642e7ad14457ffbb28e704f607ed98ae8afbeedc", func := "loop.example/g00977/laws.FnExactEarliestNext", spec := "fnExactEarliestNext", unfollowed := true, recurses := true, apart := false, narrowed := true }
def FnExactEarliestNextUptoSaid : Prop := fnExactEarliestNextUptoRow.holds Try.pinned (OpenSpec.upto fnExactEarliestNextSpec)

/-- 'laws.FnEarliest', WHERE WHAT IT READS IS OF BULK AT MOST 1048576: true; the input reads as it did. -/
def fnEarliestUptoRow : OpenClaim := { program := "ytggjheapjklhgaa", sum := "27660c3d8b05d3ebcff1f16a642e7ad14457ffbb28e704f607ed98ae8afbeedc", func := "loop.example/g00977/laws.FnEarliest", spec := "fnEarliest", unfollowed := true, recurses := true, apart := false, narrowed := true }
def FnEarliestUptoSaid : Prop := fnEarliestUptoRow.holds Try.pinned (OpenSpec.upto fnEarliestSpec)

/-- 'laws.FnRowCycle', WHERE WHAT IT READS IS OF BULK AT MOST 1048576: true; the input reads as it did. -/
def fnRowCycleUptoRow : OpenClaim := { program := "ytggjheapjklhgaa", sum := "27660c3d8b05d3ebcff1f16a642e7ad14457ffbb28e704f607ed98ae8afbeedc", func := "loop.example/g00977/laws.FnRowCycle", spec := "fnRowCycle", apart := false, narrowed := true }
def FnRowCycleUptoSaid : Prop := fnRowCycleUptoRow.holds Try.pinned (OpenSpec.upto fnRowCycleSpec)

/-- 'laws.FnGaps', WHERE WHAT IT READS IS OF BULK AT MOST 1048576: true; the input reads as it did. -/
def fnGapsUptoRow : OpenClaim := { program := "ytggjheapjklhgaa", sum := "27660c3d8b05d3ebcff1f16a642e7ad14457ffbb28e704f607ed98ae8afbeedc", func := "loop.example/g00977/laws.FnGaps", spec := "fnGaps", unfollowed := true, recurses := true, apart := false, narrowed := true }
def FnGapsUptoSaid : Prop := fnGapsUptoRow.holds Try.pinned (OpenSpec.upto fnGapsSpec)

end Rows
end Go.Proofs.Ytggjheapjklhgaa
