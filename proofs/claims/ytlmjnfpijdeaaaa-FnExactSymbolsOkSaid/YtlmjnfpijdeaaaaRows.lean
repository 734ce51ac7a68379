/-
  No cell of these rows narrows 'for every input' (looked for: loops, veiled, ifaces, maps, wideKeys, modest, calm, conditions, laid).
  DERIVED. THE GIVEN ROWS OF THIS SEAT. 6 by the template 'for every input the law returns true; each argument reads behind the call as it read before'; 0 by the template 'total and deterministic' (their statements: YtlmjnfpijdeaaaaTotals.lean).
  GIVEN WITH THE SEED: the statements are not yours to turn. If you find one false, say at which input.
  Laid BY PROGRAM, IN A SANDBOX (cutbox-rows.mjs): the forced cells as the released guide's own fill.sh prints them over the translation 6fdb05a6fbf60f1f… (all of the seat's roots in one cut). By AI agents, Wed Nov 11 2026. No macro, syntax, notation, axiom, sorry.
-/
import Derived.Test.YtlmjnfpijdeaaaaChecked
import GoSem.Claim
import GoSem.ClaimJoined
import GoSem.ClaimMapViews
import Derived.JoinedTies
import Derived.KernelRfl
namespace Go.Proofs.Ytlmjnfpijdeaaaa
/- THE CELL 'sum', in the pinned program and in every row, IS THE sha256 OF THE DUMP (.gsa) THAT YtlmjnfpijdeaaaaProg.lean LOADS. Nothing in Lean hashes anything: it is a label: what it is worth is what the hold of that sum in a sandbox is worth. -/
noncomputable def Try.pinned : Pinned := { name := "ytlmjnfpijdeaaaa", sum := "6fdb05a6fbf60f1fe893e95d3b291e63fcde14bb101f8f2439a0ca2e0912b94d", checked := Try.checked }
namespace Rows
def none {H : Type} : Left H := { results := [], args := [] }

/-- 'laws.FnExactGfAdd': WHATEVER THE INPUT: true; the input reads as it did. -/
def fnExactGfAddSpec : ChangeSpec := { name := "fnExactGfAdd", fn := fun _ => fun
  | [d1, d2] => { results := [.lit (.bool true)], args := [d1, d2] }
  | _ => none }
def fnExactGfAddRow : OpenClaim := { program := "ytlmjnfpijdeaaaa", sum := "6fdb05a6fbf60f1fe893e95d3b291e63fcde14bb101f8f2439a0ca2e0912b94d", func := "loop.example/g00977/laws.FnExactGfAdd", spec := "fnExactGfAdd", apart := false }
def FnExactGfAddSaid : Prop := fnExactGfAddRow.holds Try.pinned (OpenSpec.ofChange fnExactGfAddSpec)

/-- ITS FALSE NEIGHBOUR: 'it returns false'. Refute it at one input. -/
def fnExactGfAddWrong : ChangeSpec := { name := "fnExactGfAdd", fn := fun _ => fun
  | [d1, d2] => { results := [.lit (.bool false)], args := [d1, d2] }
  | _ => none }
def FnExactGfAddWrongFalsely : Prop := fnExactGfAddRow.holds Try.pinned (OpenSpec.ofChange fnExactGfAddWrong)

/-- 'laws.FnExactGfMul': WHATEVER THE INPUT: true; the input reads as it did. -/
def fnExactGfMulSpec : ChangeSpec := { name := "fnExactGfMul", fn := fun _ => fun
  | [d1, d2] => { results := [.lit (.bool true)], args := [d1, d2] }
  | _ => none }
def fnExactGfMulRow : OpenClaim := { program := "ytlmjnfpijdeaaaa", sum := "6fdb05a6fbf60f1fe893e95d3b291e63fcde14bb101f8f2439a0ca2e0912b94d", func := "loop.example/g00977/laws.FnExactGfMul", spec := "fnExactGfMul", apart := false }
def FnExactGfMulSaid : Prop := fnExactGfMulRow.holds Try.pinned (OpenSpec.ofChange fnExactGfMulSpec)

/-- ITS FALSE NEIGHBOUR: 'it returns false'. Refute it at one input. -/
def fnExactGfMulWrong : ChangeSpec := { name := "fnExactGfMul", fn := fun _ => fun
  | [d1, d2] => { results := [.lit (.bool false)], args := [d1, d2] }
  | _ => none }
def FnExactGfMulWrongFalsely : Prop := fnExactGfMulRow.holds Try.pinned (OpenSpec.ofChange fnExactGfMulWrong)

/-- 'laws.FnExactSymbolsOk': WHATEVER THE INPUT: true; the input reads as it did. -/
def fnExactSymbolsOkSpec : ChangeSpec := { name := "fnExactSymbolsOk", fn := fun _ => fun
  | [d1, d2] => { results := [.lit (.bool true)], args := [d1, d2] }
  | _ => none }
def fnExactSymbolsOkRow : OpenClaim := { program := "ytlmjnfpijdeaaaa", sum := "6fdb05a6fbf60f1fe893e95d3b291e63fcde14bb101f8f2439a0ca2e0912b94d", func := "loop.example/g00977/laws.FnExactSymbolsOk", spec := "fnExactSymbolsOk", apart := false }
def FnExactSymbolsOkSaid : Prop := fnExactSymbolsOkRow.holds Try.pinned (OpenSpec.ofChange fnExactSymbolsOkSpec)

/-- ITS FALSE NEIGHBOUR: 'it returns false'. Refute it at one input. -/
def fnExactSymbolsOkWrong : ChangeSpec := { name := "fnExactSymbolsOk", fn := fun _ => fun
  | [d1, d2] => { results := [.lit (.bool false)], args := [d1, d2] }
  | _ => none }
def FnExactSymbolsOkWrongFalsely : Prop := fnExactSymbolsOkRow.holds Try.pinned (OpenSpec.ofChange fnExactSymbolsOkWrong)

/-- 'laws.FnExactSymbolsOfWord': WHATEVER THE INPUT: true; the input reads as it did. -/
def fnExactSymbolsOfWordSpec : ChangeSpec := { name := "fnExactSymbolsOfWord", fn := fun _ => fun
  | [d] => { results := [.lit (.bool true)], args := [d] }
  | _ => none }
def fnExactSymbolsOfWordRow : OpenClaim := { program := "ytlmjnfpijdeaaaa", sum := "6fdb05a6fbf60f1fe893e95d3b291e63fcde14bb101f8f2439a0ca2e0912b94d", func := "loop.example/g00977/laws.FnExactSymbolsOfWord", spec := "fnExactSymbolsOfWord", apart := false }
def FnExactSymbolsOfWordSaid : Prop := fnExactSymbolsOfWordRow.holds Try.pinned (OpenSpec.ofChange fnExactSymbolsOfWordSpec)

/-- ITS FALSE NEIGHBOUR: 'it returns false'. Refute it at one input. -/
def fnExactSymbolsOfWordWrong : ChangeSpec := { name := "fnExactSymbolsOfWord", fn := fun _ => fun
  | [d] => { results := [.lit (.bool false)], args := [d] }
  | _ => none }
def FnExactSymbolsOfWordWrongFalsely : Prop := fnExactSymbolsOfWordRow.holds Try.pinned (OpenSpec.ofChange fnExactSymbolsOfWordWrong)

/-- 'laws.FnExactGfInv': WHATEVER THE INPUT: true; the input reads as it did. -/
def fnExactGfInvSpec : ChangeSpec := { name := "fnExactGfInv", fn := fun _ => fun
  | [d] => { results := [.lit (.bool true)], args := [d] }
  | _ => none }
def fnExactGfInvRow : OpenClaim := { program := "ytlmjnfpijdeaaaa", sum := "6fdb05a6fbf60f1fe893e95d3b291e63fcde14bb101f8f2439a0ca2e0912b94d", func := "loop.example/g00977/laws.FnExactGfInv", spec := "fnExactGfInv", apart := false }
def FnExactGfInvSaid : Prop := fnExactGfInvRow.holds Try.pinned (OpenSpec.ofChange fnExactGfInvSpec)

/-- ITS FALSE NEIGHBOUR: 'it returns false'. Refute it at one input. -/
def fnExactGfInvWrong : ChangeSpec := { name := "fnExactGfInv", fn := fun _ => fun
  | [d] => { results := [.lit (.bool false)], args := [d] }
  | _ => none }
def FnExactGfInvWrongFalsely : Prop := fnExactGfInvRow.holds Try.pinned (OpenSpec.ofChange fnExactGfInvWrong)

/-- 'laws.FnExactGfPow': WHATEVER THE INPUT: true; the input reads as it did. -/
def fnExactGfPowSpec : ChangeSpec := { name := "fnExactGfPow", fn := fun _ => fun
  | [d1, d2] => { results := [.lit (.bool true)], args := [d1, d2] }
  | _ => none }
def fnExactGfPowRow : OpenClaim := { program := "ytlmjnfpijdeaaaa", sum := "6fdb05a6fbf60f1fe893e95d3b291e63fcde14bb101f8f2439a0ca2e0912b94d", func := "loop.example/g00977/laws.FnExactGfPow", spec := "fnExactGfPow", apart := false }
def FnExactGfPowSaid : Prop := fnExactGfPowRow.holds Try.pinned (OpenSpec.ofChange fnExactGfPowSpec)

/-- ITS FALSE NEIGHBOUR: 'it returns false'. Refute it at one input. -/
def fnExactGfPowWrong : ChangeSpec := { name := "fnExactGfPow", fn := fun _ => fun
  | [d1, d2] => { results := [.lit (.bool false)], args := [d1, d2] }
  | _ => none }
def FnExactGfPowWrongFalsely : Prop := fnExactGfPowRow.holds Try.pinned (OpenSpec.ofChange fnExactGfPowWrong)

/- THE SECOND FORM. 'bulk': how many values and letters a reading holds, each counted each time it is reached (what is shared counts as often as it is met; a slice's spare places count too). A statement '..UptoSaid' is the law's where the arguments, and the package variables that the reading takes, are together of bulk at most 1048576: NARROWER than '..Said'. Prove '..Said' where nothing that the law and all that it calls make is longer than what came in: it says more and counts as full. Else prove '..UptoSaid'. A law counts once. -/
mutual
def uptoBulk {H : Type} : DataW H → Nat
  | .lit (.string bytes) => bytes.length + 1
  | .lit _ => 1
  | .nil => 1
  | .ptr d => uptoBulk d + 1
  | .slice elems spare => uptoBulkAll elems + uptoBulkAll spare + 1
  | .agg parts => uptoBulkAll parts + 1
  | .iface _ d => uptoBulk d + 1
  | .map entries => uptoBulkEntries entries + 1
  | .held _ => 1
def uptoBulkAll {H : Type} : List (DataW H) → Nat
  | [] => 0
  | d :: r => uptoBulk d + uptoBulkAll r
def uptoBulkEntries {H : Type} : List (Lit × DataW H) → Nat
  | [] => 0
  | x :: r => uptoBulkEntry x + uptoBulkEntries r
def uptoBulkEntry {H : Type} : Lit × DataW H → Nat
  | (.string bytes, d) => bytes.length + uptoBulk d + 1
  | (_, d) => uptoBulk d + 1
 end
def uptoSmall : (H : Type) → List (DataW H) → Bool := fun _ ds => decide (uptoBulkAll ds ≤ 1048576)
def OpenSpec.upto (s : _root_.Go.ChangeSpec) : _root_.Go.OpenSpec := { _root_.Go.OpenSpec.ofChange s with cond := some uptoSmall }

/-- 'laws.FnExactGfAdd', WHERE WHAT IT READS IS OF BULK AT MOST 1048576: true; the input reads as it did. -/
def fnExactGfAddUptoRow : OpenClaim := { program := "ytlmjnfpijdeaaaa", sum := "6fdb05a6fbf60f1fe893e95d3b291e63fcde14bb101f8f2439a0ca2e0912b94d", func := "loop.example/g00977/laws.FnExactGfAdd", spec := "fnExactGfAdd", apart := false, narrowed := true }
def FnExactGfAddUptoSaid : Prop := fnExactGfAddUptoRow.holds Try.pinned (OpenSpec.upto fnExactGfAddSpec)

/-- 'laws.FnExactGfMul', WHERE WHAT IT READS IS OF BULK AT MOST 1048576: true; the input reads as it did. -/
def fnExactGfMulUptoRow : OpenClaim := { program := "ytlmjnfpijdeaaaa", sum := "6fdb05a6fbf60f1fe893e95d3b291e63fcde14bb101f8f2439a0ca2e0912b94d", func := "loop.example/g00977/laws.FnExactGfMul", spec := "fnExactGfMul", apart := false, narrowed := true }
def FnExactGfMulUptoSaid : Prop := fnExactGfMulUptoRow.holds Try.pinned (OpenSpec.upto fnExactGfMulSpec)

/-- 'laws.FnExactSymbolsOk', WHERE WHAT IT READS IS OF BULK AT MOST 1048576: true; the input reads as it did. -/
def fnExactSymbolsOkUptoRow : OpenClaim := { program := "ytlmjnfpijdeaaaa", sum := "6fdb05a6fbf60f1fe893e95d3b291e63fcde14bb101f8f2439a0ca2e0912b94d", func := "loop.example/g00977/laws.FnExactSymbolsOk", spec := "fnExactSymbolsOk", apart := false, narrowed := true }
def FnExactSymbolsOkUptoSaid : Prop := fnExactSymbolsOkUptoRow.holds Try.pinned (OpenSpec.upto fnExactSymbolsOkSpec)

/-- 'laws.FnExactSymbolsOfWord', WHERE WHAT IT READS IS OF BULK AT MOST 1048576: true; the input reads as it did. -/
def fnExactSymbolsOfWordUptoRow : OpenClaim := { program := "ytlmjnfpijdeaaaa", sum := "6fdb05a6fbf60f1fe893e95d3b291e63fcde14bb101f8f2439a0ca2e0912b94d", func := "loop.example/g00977/laws.FnExactSymbolsOfWord", spec := "fnExactSymbolsOfWord", apart := false, narrowed := true }
def FnExactSymbolsOfWordUptoSaid : Prop := fnExactSymbolsOfWordUptoRow.holds Try.pinned (OpenSpec.upto fnExactSymbolsOfWordSpec)

/-- 'laws.FnExactGfInv', WHERE WHAT IT READS IS OF BULK AT MOST 1048576: true; the input reads as it did. -/
def fnExactGfInvUptoRow : OpenClaim := { program := "ytlmjnfpijdeaaaa", sum := "6fdb05a6fbf60f1fe893e95d3b291e63fcde14bb101f8f2439a0ca2e0912b94d", func := "loop.example/g00977/laws.FnExactGfInv", spec := "fnExactGfInv", apart := false, narrowed := true }
def FnExactGfInvUptoSaid : Prop := fnExactGfInvUptoRow.holds Try.pinned (OpenSpec.upto fnExactGfInvSpec)

/-- 'laws.FnExactGfPow', WHERE WHAT IT READS IS OF BULK AT MOST 1048576: true; the input reads as it did. -/
def fnExactGfPowUptoRow : OpenClaim := { program := "ytlmjnfpijdeaaaa", sum := "6fdb05a6fbf60f1fe893e95d3b291e63fcde14bb101f8f2439a0ca2e0912b94d", func := "loop.example/g00977/laws.FnExactGfPow", spec := "fnExactGfPow", apart := false, narrowed := true }
def FnExactGfPowUptoSaid : Prop := fnExactGfPowUptoRow.holds Try.pinned (OpenSpec.upto fnExactGfPowSpec)

end Rows
end Go.Proofs.Ytlmjnfpijdeaaaa
