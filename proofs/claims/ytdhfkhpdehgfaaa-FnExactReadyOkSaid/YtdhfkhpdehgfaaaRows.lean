/-
  No cell of these rows narrows 'for every input' (looked for: loops, veiled, ifaces, maps, wideKeys, modest, calm, conditions, laid).
  DERIVED. THE GIVEN ROWS OF THIS SEAT. 12 by the template 'for every input the law returns true; each argument reads behind the call as it read before'; 0 by the template 'total and deterministic' (their statements: YtdhfkhpdehgfaaaTotals.lean).
  GIVEN WITH THE SEED: the statements are not yours to turn. If you find one false, say at which input.
  Laid BY PROGRAM, IN A SANDBOX (cutbox-rows.mjs): the forced cells as the released guide's own fill.sh prints them over the translation 767e5a6dae26b8bd… (all of the seat's roots in one cut). By AI agents, Wed Nov 11 2026. No macro, syntax, notation, axiom, sorry.
-/
import Derived.Test.YtdhfkhpdehgfaaaChecked
import GoSem.Claim
import GoSem.ClaimJoined
import GoSem.ClaimMapViews
import Derived.JoinedTies
import Derived.KernelRfl
namespace Go.Proofs.Ytdhfkhpdehgfaaa
/- THE CELL 'sum', in the pinned program and in every row, IS THE sha256 OF THE DUMP (.gsa) THAT YtdhfkhpdehgfaaaProg.lean LOADS. Nothing in Lean hashes anything: it is a label: what it is worth is what the hold of that sum in a sandbox is worth. -/
noncomputable def Try.pinned : Pinned := { name := "ytdhfkhpdehgfaaa", sum := "767e5a6dae26b8bd4510d862c83ff81588882502084674e58f949ecd55daefb0", checked := Try.checked }
namespace Rows
def none {H : Type} : Left H := { results := [], args := [] }

/-- 'laws.FnExactRowOf': WHATEVER THE INPUT: true; the input reads as it did. -/
def fnExactRowOfSpec : ChangeSpec := { name := "fnExactRowOf", fn := fun _ => fun
  | [d1, d2] => { results := [.lit (.bool true)], args := [d1, d2] }
  | _ => none }
def fnExactRowOfRow : OpenClaim := { program := "ytdhfkhpdehgfaaa", sum := "767e5a6dae26b8bd4510d862c83ff81588882502084674e58f949ecd55daefb0", func := "loop.example/g00977/laws.FnExactRowOf", spec := "fnExactRowOf", apart := false }
def FnExactRowOfSaid : Prop := fnExactRowOfRow.holds Try.pinned (OpenSpec.ofChange fnExactRowOfSpec)

/-- ITS FALSE NEIGHBOUR: 'it returns false'. Refute it at one input. -/
def fnExactRowOfWrong : ChangeSpec := { name := "fnExactRowOf", fn := fun _ => fun
  | [d1, d2] => { results := [.lit (.bool false)], args := [d1, d2] }
  | _ => none }
def FnExactRowOfWrongFalsely : Prop := fnExactRowOfRow.holds Try.pinned (OpenSpec.ofChange fnExactRowOfWrong)

/-- 'laws.FnExactRankNew': WHATEVER THE INPUT: true; the input reads as it did. -/
def fnExactRankNewSpec : ChangeSpec := { name := "fnExactRankNew", fn := fun _ => fun
  | [d] => { results := [.lit (.bool true)], args := [d] }
  | _ => none }
def fnExactRankNewRow : OpenClaim := { program := "ytdhfkhpdehgfaaa", sum := "767e5a6dae26b8bd4510d862c83ff81588882502084674e58f949ecd55daefb0", func := "loop.example/g00977/laws.FnExactRankNew", spec := "fnExactRankNew", apart := false }
def FnExactRankNewSaid : Prop := fnExactRankNewRow.holds Try.pinned (OpenSpec.ofChange fnExactRankNewSpec)

/-- ITS FALSE NEIGHBOUR: 'it returns false'. Refute it at one input. -/
def fnExactRankNewWrong : ChangeSpec := { name := "fnExactRankNew", fn := fun _ => fun
  | [d] => { results := [.lit (.bool false)], args := [d] }
  | _ => none }
def FnExactRankNewWrongFalsely : Prop := fnExactRankNewRow.holds Try.pinned (OpenSpec.ofChange fnExactRankNewWrong)

/-- 'laws.FnExactReadyNew': WHATEVER THE INPUT: true; the input reads as it did. -/
def fnExactReadyNewSpec : ChangeSpec := { name := "fnExactReadyNew", fn := fun _ => fun
  | [d] => { results := [.lit (.bool true)], args := [d] }
  | _ => none }
def fnExactReadyNewRow : OpenClaim := { program := "ytdhfkhpdehgfaaa", sum := "767e5a6dae26b8bd4510d862c83ff81588882502084674e58f949ecd55daefb0", func := "loop.example/g00977/laws.FnExactReadyNew", spec := "fnExactReadyNew", apart := false }
def FnExactReadyNewSaid : Prop := fnExactReadyNewRow.holds Try.pinned (OpenSpec.ofChange fnExactReadyNewSpec)

/-- ITS FALSE NEIGHBOUR: 'it returns false'. Refute it at one input. -/
def fnExactReadyNewWrong : ChangeSpec := { name := "fnExactReadyNew", fn := fun _ => fun
  | [d] => { results := [.lit (.bool false)], args := [d] }
  | _ => none }
def FnExactReadyNewWrongFalsely : Prop := fnExactReadyNewRow.holds Try.pinned (OpenSpec.ofChange fnExactReadyNewWrong)

/-- 'laws.FnExactOpenBanks': WHATEVER THE INPUT: true; the input reads as it did. -/
def fnExactOpenBanksSpec : ChangeSpec := { name := "fnExactOpenBanks", fn := fun _ => fun
  | [d] => { results := [.lit (.bool true)], args := [d] }
  | _ => none }
def fnExactOpenBanksRow : OpenClaim := { program := "ytdhfkhpdehgfaaa", sum := "767e5a6dae26b8bd4510d862c83ff81588882502084674e58f949ecd55daefb0", func := "loop.example/g00977/laws.FnExactOpenBanks", spec := "fnExactOpenBanks", apart := false }
def FnExactOpenBanksSaid : Prop := fnExactOpenBanksRow.holds Try.pinned (OpenSpec.ofChange fnExactOpenBanksSpec)

/-- ITS FALSE NEIGHBOUR: 'it returns false'. Refute it at one input. -/
def fnExactOpenBanksWrong : ChangeSpec := { name := "fnExactOpenBanks", fn := fun _ => fun
  | [d] => { results := [.lit (.bool false)], args := [d] }
  | _ => none }
def FnExactOpenBanksWrongFalsely : Prop := fnExactOpenBanksRow.holds Try.pinned (OpenSpec.ofChange fnExactOpenBanksWrong)

/-- 'laws.FnRowCycle': WHATEVER THE INPUT: true; the input reads as it did. -/
def fnRowCycleSpec : ChangeSpec := { name := "fnRowCycle", fn := fun _ => fun
  | [d] => { results := [.lit (.bool true)], args := [d] }
  | _ => none }
def fnRowCycleRow : OpenClaim := { program := "ytdhfkhpdehgfaaa", sum := "767e5a6dae26b8bd4510d862c83ff81588882502084674e58f949ecd55daefb0", func := "loop.example/g00977/laws.FnRowCycle", spec := "fnRowCycle", apart := false }
def FnRowCycleSaid : Prop := fnRowCycleRow.holds Try.pinned (OpenSpec.ofChange fnRowCycleSpec)

/-- ITS FALSE NEIGHBOUR: 'it returns false'. Refute it at one input. -/
def fnRowCycleWrong : ChangeSpec := { name := "fnRowCycle", fn := fun _ => fun
  | [d] => { results := [.lit (.bool false)], args := [d] }
  | _ => none }
def FnRowCycleWrongFalsely : Prop := fnRowCycleRow.holds Try.pinned (OpenSpec.ofChange fnRowCycleWrong)

/-- 'laws.FnExactActTimes': WHATEVER THE INPUT: true; the input reads as it did. -/
def fnExactActTimesSpec : ChangeSpec := { name := "fnExactActTimes", fn := fun _ => fun
  | [d] => { results := [.lit (.bool true)], args := [d] }
  | _ => none }
def fnExactActTimesRow : OpenClaim := { program := "ytdhfkhpdehgfaaa", sum := "767e5a6dae26b8bd4510d862c83ff81588882502084674e58f949ecd55daefb0", func := "loop.example/g00977/laws.FnExactActTimes", spec := "fnExactActTimes", apart := false }
def FnExactActTimesSaid : Prop := fnExactActTimesRow.holds Try.pinned (OpenSpec.ofChange fnExactActTimesSpec)

/-- ITS FALSE NEIGHBOUR: 'it returns false'. Refute it at one input. -/
def fnExactActTimesWrong : ChangeSpec := { name := "fnExactActTimes", fn := fun _ => fun
  | [d] => { results := [.lit (.bool false)], args := [d] }
  | _ => none }
def FnExactActTimesWrongFalsely : Prop := fnExactActTimesRow.holds Try.pinned (OpenSpec.ofChange fnExactActTimesWrong)

/-- 'laws.FnExactRankOk': WHATEVER THE INPUT: true; the input reads as it did. -/
def fnExactRankOkSpec : ChangeSpec := { name := "fnExactRankOk", fn := fun _ => fun
  | [d1, d2] => { results := [.lit (.bool true)], args := [d1, d2] }
  | _ => none }
def fnExactRankOkRow : OpenClaim := { program := "ytdhfkhpdehgfaaa", sum := "767e5a6dae26b8bd4510d862c83ff81588882502084674e58f949ecd55daefb0", func := "loop.example/g00977/laws.FnExactRankOk", spec := "fnExactRankOk", apart := false }
def FnExactRankOkSaid : Prop := fnExactRankOkRow.holds Try.pinned (OpenSpec.ofChange fnExactRankOkSpec)

/-- ITS FALSE NEIGHBOUR: 'it returns false'. Refute it at one input. -/
def fnExactRankOkWrong : ChangeSpec := { name := "fnExactRankOk", fn := fun _ => fun
  | [d1, d2] => { results := [.lit (.bool false)], args := [d1, d2] }
  | _ => none }
def FnExactRankOkWrongFalsely : Prop := fnExactRankOkRow.holds Try.pinned (OpenSpec.ofChange fnExactRankOkWrong)

/-- 'laws.FnExactReadyOk': WHATEVER THE INPUT: true; the input reads as it did. -/
def fnExactReadyOkSpec : ChangeSpec := { name := "fnExactReadyOk", fn := fun _ => fun
  | [d1, d2] => { results := [.lit (.bool true)], args := [d1, d2] }
  | _ => none }
def fnExactReadyOkRow : OpenClaim := { program := "ytdhfkhpdehgfaaa", sum := "767e5a6dae26b8bd4510d862c83ff81588882502084674e58f949ecd55daefb0", func := "loop.example/g00977/laws.FnExactReadyOk", spec := "fnExactReadyOk", apart := false }
def FnExactReadyOkSaid : Prop := fnExactReadyOkRow.holds Try.pinned (OpenSpec.ofChange fnExactReadyOkSpec)

/-- ITS FALSE NEIGHBOUR: 'it returns false'. Refute it at one input. -/
def fnExactReadyOkWrong : ChangeSpec := { name := "fnExactReadyOk", fn := fun _ => fun
  | [d1, d2] => { results := [.lit (.bool false)], args := [d1, d2] }
  | _ => none }
def FnExactReadyOkWrongFalsely : Prop := fnExactReadyOkRow.holds Try.pinned (OpenSpec.ofChange fnExactReadyOkWrong)

/-- 'laws.FnExactRankGap': WHATEVER THE INPUT: true; the input reads as it did. -/
def fnExactRankGapSpec : ChangeSpec := { name := "fnExactRankGap", fn := fun _ => fun
  | [d1, d2, d3, d4] => { results := [.lit (.bool true)], args := [d1, d2, d3, d4] }
  | _ => none }
def fnExactRankGapRow : OpenClaim := { program := "ytdhfkhpdehgfaaa", sum := "767e5a6dae26b8bd4510d862c83ff81588882502084674e58f949ecd55daefb0", func := "loop.example/g00977/laws.FnExactRankGap", spec := "fnExactRankGap", unfollowed := true, recurses := true, apart := false }
def FnExactRankGapSaid : Prop := fnExactRankGapRow.holds Try.pinned (OpenSpec.ofChange fnExactRankGapSpec)

/-- ITS FALSE NEIGHBOUR: 'it returns false'. Refute it at one input. -/
def fnExactRankGapWrong : ChangeSpec := { name := "fnExactRankGap", fn := fun _ => fun
  | [d1, d2, d3, d4] => { results := [.lit (.bool false)], args := [d1, d2, d3, d4] }
  | _ => none }
def FnExactRankGapWrongFalsely : Prop := fnExactRankGapRow.holds Try.pinned (OpenSpec.ofChange fnExactRankGapWrong)

/-- 'laws.FnExactAllowed': WHATEVER THE INPUT: true; the input reads as it did. -/
def fnExactAllowedSpec : ChangeSpec := { name := "fnExactAllowed", fn := fun _ => fun
  | [d1, d2, d3] => { results := [.lit (.bool true)], args := [d1, d2, d3] }
  | _ => none }
def fnExactAllowedRow : OpenClaim := { program := "ytdhfkhpdehgfaaa", sum := "767e5a6dae26b8bd4510d862c83ff81588882502084674e58f949ecd55daefb0", func := "loop.example/g00977/laws.FnExactAllowed", spec := "fnExactAllowed", apart := false }
def FnExactAllowedSaid : Prop := fnExactAllowedRow.holds Try.pinned (OpenSpec.ofChange fnExactAllowedSpec)

/-- ITS FALSE NEIGHBOUR: 'it returns false'. Refute it at one input. -/
def fnExactAllowedWrong : ChangeSpec := { name := "fnExactAllowed", fn := fun _ => fun
  | [d1, d2, d3] => { results := [.lit (.bool false)], args := [d1, d2, d3] }
  | _ => none }
def FnExactAllowedWrongFalsely : Prop := fnExactAllowedRow.holds Try.pinned (OpenSpec.ofChange fnExactAllowedWrong)

/-- 'laws.FnGaps': WHATEVER THE INPUT: true; the input reads as it did. -/
def fnGapsSpec : ChangeSpec := { name := "fnGaps", fn := fun _ => fun
  | [d] => { results := [.lit (.bool true)], args := [d] }
  | _ => none }
def fnGapsRow : OpenClaim := { program := "ytdhfkhpdehgfaaa", sum := "767e5a6dae26b8bd4510d862c83ff81588882502084674e58f949ecd55daefb0", func := "loop.example/g00977/laws.FnGaps", spec := "fnGaps", unfollowed := true, recurses := true, apart := false }
def FnGapsSaid : Prop := fnGapsRow.holds Try.pinned (OpenSpec.ofChange fnGapsSpec)

/-- ITS FALSE NEIGHBOUR: 'it returns false'. Refute it at one input. -/
def fnGapsWrong : ChangeSpec := { name := "fnGaps", fn := fun _ => fun
  | [d] => { results := [.lit (.bool false)], args := [d] }
  | _ => none }
def FnGapsWrongFalsely : Prop := fnGapsRow.holds Try.pinned (OpenSpec.ofChange fnGapsWrong)

/-- 'laws.FnExactGap': WHATEVER THE INPUT: true; the input reads as it did. -/
def fnExactGapSpec : ChangeSpec := { name := "fnExactGap", fn := fun _ => fun
  | [d1, d2, d3, d4] => { results := [.lit (.bool true)], args := [d1, d2, d3, d4] }
  | _ => none }
def fnExactGapRow : OpenClaim := { program := "ytdhfkhpdehgfaaa", sum := "767e5a6dae26b8bd4510d862c83ff81588882502084674e58f949ecd55daefb0", func := "loop.example/g00977/laws.FnExactGap", spec := "fnExactGap", unfollowed := true, recurses := true, apart := false }
def FnExactGapSaid : Prop := fnExactGapRow.holds Try.pinned (OpenSpec.ofChange fnExactGapSpec)

/-- ITS FALSE NEIGHBOUR: 'it returns false'. Refute it at one input. -/
def fnExactGapWrong : ChangeSpec := { name := "fnExactGap", fn := fun _ => fun
  | [d1, d2, d3, d4] => { results := [.lit (.bool false)], args := [d1, d2, d3, d4] }
  | _ => none }
def FnExactGapWrongFalsely : Prop := fnExactGapRow.holds Try.pinned (OpenSpec.ofChange fnExactGapWrong)

/- THE SECOND FORM. 'bulk': how many values and letters a reading holds, each counted each time it is reached (what is shared counts as often as it is met; a slice's spare places count too). A statement '..UptoSaid' is the law's where the arguments, and the package variables that the reading takes, are together of bulk at most 1048576: NARROWER than '..Said'. Prove '..Said' where nothing that the law and all that it calls make is longer than what came in: it says more and counts as full. Else prove '..UptoSaid'. A law counts once. -/
mutual
def uptoBulk {H : Type} : DataW H → Nat
  | .lit (.string bytes) => bytes.length + 1
  | .lit _ => 1
  | .nil => 1
  | .ptr d => uptoBulk d + 1
  | .slice elems spare => uptoBulkAll elems + uptoBulkAll spare + 1
  | .agg parts => uptoBulkAll parts + 1
  | .iface _ d => uptoBulk d + 1
  | .map entries => uptoBulkEntries entries + 1
  | .held _ => 1
def uptoBulkAll {H : Type} : List (DataW H) → Nat
  | [] => 0
  | d :: r => uptoBulk d + uptoBulkAll r
def uptoBulkEntries {H : Type} : List (Lit × DataW H) → Nat
  | [] => 0
  | x :: r => uptoBulkEntry x + uptoBulkEntries r
def uptoBulkEntry {H : Type} : Lit × DataW H → Nat
  | (.string bytes, d) => bytes.length + uptoBulk d + 1
  | (_, d) => uptoBulk d + 1
 end
def uptoSmall : (H : Type) → List (DataW H) → Bool := fun _ ds => decide (uptoBulkAll ds ≤ 1048576)
def OpenSpec.upto (s : _root_.Go.ChangeSpec) : _root_.Go.OpenSpec := { _root_.Go.OpenSpec.ofChange s with cond := some uptoSmall }

/-- 'laws.FnExactRowOf', WHERE WHAT IT READS IS OF BULK AT MOST 1048576: true; the input reads as it did. -/
def fnExactRowOfUptoRow : OpenClaim := { program := "ytdhfkhpdehgfaaa", sum := "767e5a6dae26b8bd4510d862c83ff81588882502084674e58f949ecd55daefb0", func := "loop.example/g00977/laws.FnExactRowOf", spec := "fnExactRowOf", apart := false, narrowed := true }
def FnExactRowOfUptoSaid : Prop := fnExactRowOfUptoRow.holds Try.pinned (OpenSpec.upto fnExactRowOfSpec)

/-- 'laws.FnExactRankNew', WHERE WHAT IT READS IS OF BULK AT MOST 1048576: true; the input reads as it did. -/
def fnExactRankNewUptoRow : OpenClaim := { program := "ytdhfkhpdehgfaaa", sum := "767e5a6dae26b8bd4510d862c83ff81588882502084674e58f949ecd55daefb0", func := "loop.example/g00977/laws.FnExactRankNew", spec := "fnExactRankNew", apart := false, narrowed := true }
def FnExactRankNewUptoSaid : Prop := fnExactRankNewUptoRow.holds Try.pinned (OpenSpec.upto fnExactRankNewSpec)

/-- 'laws.FnExactReadyNew', WHERE WHAT IT READS IS OF BULK AT MOST 1048576: true; the input reads as it did. -/
def fnExactReadyNewUptoRow : OpenClaim := { program := "ytdhfkhpdehgfaaa", sum := "767e5a6dae26b8bd4510d862c83ff81588882502084674e58f949ecd55daefb0", func := "loop.example/g00977/laws.FnExactReadyNew", spec := "fnExactReadyNew", apart := false, narrowed := true }
def FnExactReadyNewUptoSaid : Prop := fnExactReadyNewUptoRow.holds Try.pinned (OpenSpec.upto fnExactReadyNewSpec)

/-- 'laws.FnExactOpenBanks', WHERE WHAT IT READS IS OF BULK AT MOST 1048576: true; the input reads as it did. -/
def fnExactOpenBanksUptoRow : OpenClaim := { program := "ytdhfkhpdehgfaaa", sum := "767e5a6dae26b8bd4510d862c83ff81588882502084674e58f949ecd55daefb0", func := "loop.example/g00977/laws.FnExactOpenBanks", spec := "fnExactOpenBanks", apart := false, narrowed := true }
def FnExactOpenBanksUptoSaid : Prop := fnExactOpenBanksUptoRow.holds Try.pinned (OpenSpec.upto fnExactOpenBanksSpec)

/-- 'laws.FnRowCycle', WHERE WHAT IT READS IS OF BULK AT MOST 1048576: true; the input reads as it did. -/
def fnRowCycleUptoRow : OpenClaim := { program := "ytdhfkhpdehgfaaa", sum := "767e5a6dae26b8bd4510d862c83ff81588882502084674e58f949ecd55daefb0", func := "loop.example/g00977/laws.FnRowCycle", spec := "fnRowCycle", apart := false, narrowed := true }
def FnRowCycleUptoSaid : Prop := fnRowCycleUptoRow.holds Try.pinned (OpenSpec.upto fnRowCycleSpec)

/-- 'laws.FnExactActTimes', WHERE WHAT IT READS IS OF BULK AT MOST 1048576: true; the input reads as it did. -/
def fnExactActTimesUptoRow : OpenClaim := { program := "ytdhfkhpdehgfaaa", sum := "767e5a6dae26b8bd4510d862c83ff81588882502084674e58f949ecd55daefb0", func := "loop.example/g00977/laws.FnExactActTimes", spec := "fnExactActTimes", apart := false, narrowed := true }
def FnExactActTimesUptoSaid : Prop := fnExactActTimesUptoRow.holds Try.pinned (OpenSpec.upto fnExactActTimesSpec)

/-- 'laws.FnExactRankOk', WHERE WHAT IT READS IS OF BULK AT MOST 1048576: true; the input reads as it did. -/
def fnExactRankOkUptoRow : OpenClaim := { program := "ytdhfkhpdehgfaaa", sum := "767e5a6dae26b8bd4510d862c83ff81588882502084674e58f949ecd55daefb0", func := "loop.example/g00977/laws.FnExactRankOk", spec := "fnExactRankOk", apart := false, narrowed := true }
def FnExactRankOkUptoSaid : Prop := fnExactRankOkUptoRow.holds Try.pinned (OpenSpec.upto fnExactRankOkSpec)

/-- 'laws.FnExactReadyOk', WHERE WHAT IT READS IS OF BULK AT MOST 1048576: true; the input reads as it did. -/
def fnExactReadyOkUptoRow : OpenClaim := { program := "ytdhfkhpdehgfaaa", sum := "767e5a6dae26b8bd4510d862c83ff81588882502084674e58f949ecd55daefb0", func := "loop.example/g00977/laws.FnExactReadyOk", spec := "fnExactReadyOk", apart := false, narrowed := true }
def FnExactReadyOkUptoSaid : Prop := fnExactReadyOkUptoRow.holds Try.pinned (OpenSpec.upto fnExactReadyOkSpec)

/-- 'laws.FnExactRankGap', WHERE WHAT IT READS IS OF BULK AT MOST 1048576: true; the input reads as it did. -/
def fnExactRankGapUptoRow : OpenClaim := { program := "ytdhfkhpdehgfaaa", sum := "767e5a6dae26b8bd4510d862c83ff81588882502084674e58f949ecd55daefb0", func := "loop.example/g00977/laws.FnExactRankGap", spec := "fnExactRankGap", unfollowed := true, recurses := true, apart := false, narrowed := true }
def FnExactRankGapUptoSaid : Prop := fnExactRankGapUptoRow.holds Try.pinned (OpenSpec.upto fnExactRankGapSpec)

/-- 'laws.FnExactAllowed', WHERE WHAT IT READS IS OF BULK AT MOST 1048576: true; the input reads as it did. -/
def fnExactAllowedUptoRow : OpenClaim := { program := "ytdhfkhpdehgfaaa", sum := "767e5a6dae26b8bd4510d862c83ff81588882502084674e58f949ecd55daefb0", func := "loop.example/g00977/laws.FnExactAllowed", spec := "fnExactAllowed", apart := false, narrowed := true }
def FnExactAllowedUptoSaid : Prop := fnExactAllowedUptoRow.holds Try.pinned (OpenSpec.upto fnExactAllowedSpec)

/-- 'laws.FnGaps', WHERE WHAT IT READS IS OF BULK AT MOST 1048576: true; the input reads as it did. -/
def fnGapsUptoRow : OpenClaim := { program := "ytdhfkhpdehgfaaa", sum := "767e5a6dae26b8bd4510d862c83ff81588882502084674e58f949ecd55daefb0", func := "loop.example/g00977/laws.FnGaps", spec := "fnGaps", unfollowed := true, recurses := true, apart := false, narrowed := true }
def FnGapsUptoSaid : Prop := fnGapsUptoRow.holds Try.pinned (OpenSpec.upto fnGapsSpec)

/-- 'laws.FnExactGap', WHERE WHAT IT READS IS OF BULK AT MOST 1048576: true; the input reads as it did. -/
def fnExactGapUptoRow : OpenClaim := { program := "ytdhfkhpdehgfaaa", sum := "767e5a6dae26b8bd4510d862c83ff81588882502084674e58f949ecd55daefb0", func := "loop.example/g00977/laws.FnExactGap", spec := "fnExactGap", unfollowed := true, recurses := true, apart := false, narrowed := true }
def FnExactGapUptoSaid : Prop := fnExactGapUptoRow.holds Try.pinned (OpenSpec.upto fnExactGapSpec)

end Rows
end Go.Proofs.Ytdhfkhpdehgfaaa
