/-
  No cell of these rows narrows 'for every input' (looked for: loops, veiled, ifaces, maps, wideKeys, modest, calm, conditions, laid).
  DERIVED. THE GIVEN ROWS OF THIS SEAT. 29 by the template 'for every input the law returns true; each argument reads behind the call as it read before'; 0 by the template 'total and deterministic' (their statements: YtgconjollemjiaaTotals.lean).
  GIVEN WITH THE SEED: the statements are not yours to turn. If you find one false, say at which input.
  Laid BY PROGRAM, IN A SANDBOX (cutbox-rows.mjs): the forced cells as the released guide's own fill.sh prints them over the translation fb52a12a32d6ea23… (all of the seat's roots in one cut). By AI agents, Wed Nov 11 2026. No macro, syntax, notation, axiom, sorry.
-/
import Derived.Test.YtgconjollemjiaaChecked
import GoSem.Claim
import GoSem.ClaimJoined
import GoSem.ClaimMapViews
import Derived.JoinedTies
import Derived.KernelRfl
namespace Go.Proofs.Ytgconjollemjiaa
/- THE CELL 'sum', in the pinned program and in every row, IS THE sha256 OF THE DUMP (.gsa) THAT YtgconjollemjiaaProg.lean LOADS. Nothing in Lean hashes anything: it is a label: what it is worth is what the hold of that sum in a sandbox is worth. -/
noncomputable def Try.pinned : Pinned := { name := "ytgconjollemjiaa", sum := "fb52a12a32d6ea231c982e1702bc0add59b673d53475c41d5f4cc5412588e7c4", checked := Try.checked }
namespace Rows
def none {H : Type} : Left H := { results := [], args := [] }

/-- 'laws.FnExactGfAdd': WHATEVER THE INPUT: true; the input reads as it did. -/
def fnExactGfAddSpec : ChangeSpec := { name := "fnExactGfAdd", fn := fun _ => fun
  | [d1, d2] => { results := [.lit (.bool true)], args := [d1, d2] }
  | _ => none }
def fnExactGfAddRow : OpenClaim := { program := "ytgconjollemjiaa", sum := "fb52a12a32d6ea231c982e1702bc0add59b673d53475c41d5f4cc5412588e7c4", func := "loop.example/g00977/laws.FnExactGfAdd", spec := "fnExactGfAdd", apart := false }
def FnExactGfAddSaid : Prop := fnExactGfAddRow.holds Try.pinned (OpenSpec.ofChange fnExactGfAddSpec)

/-- ITS FALSE NEIGHBOUR: 'it returns false'. Refute it at one input. -/
def fnExactGfAddWrong : ChangeSpec := { name := "fnExactGfAdd", fn := fun _ => fun
  | [d1, d2] => { results := [.lit (.bool false)], args := [d1, d2] }
  | _ => none }
def FnExactGfAddWrongFalsely : Prop := fnExactGfAddRow.holds Try.pinned (OpenSpec.ofChange fnExactGfAddWrong)

/-- 'laws.FnExactGfMul': WHATEVER THE INPUT: true; the input reads as it did. -/
def fnExactGfMulSpec : ChangeSpec := { name := "fnExactGfMul", fn := fun _ => fun
  | [d1, d2] => { results := [.lit (.bool true)], args := [d1, d2] }
  | _ => none }
def fnExactGfMulRow : OpenClaim := { program := "ytgconjollemjiaa", sum := "fb52a12a32d6ea231c982e1702bc0add59b673d53475c41d5f4cc5412588e7c4", func := "loop.example/g00977/laws.FnExactGfMul", spec := "fnExactGfMul", apart := false }
def FnExactGfMulSaid : Prop := fnExactGfMulRow.holds Try.pinned (OpenSpec.ofChange fnExactGfMulSpec)

/-- ITS FALSE NEIGHBOUR: 'it returns false'. Refute it at one input. -/
def fnExactGfMulWrong : ChangeSpec := { name := "fnExactGfMul", fn := fun _ => fun
  | [d1, d2] => { results := [.lit (.bool false)], args := [d1, d2] }
  | _ => none }
def FnExactGfMulWrongFalsely : Prop := fnExactGfMulRow.holds Try.pinned (OpenSpec.ofChange fnExactGfMulWrong)

/-- 'laws.FnExactSymbolsOk': WHATEVER THE INPUT: true; the input reads as it did. -/
def fnExactSymbolsOkSpec : ChangeSpec := { name := "fnExactSymbolsOk", fn := fun _ => fun
  | [d1, d2] => { results := [.lit (.bool true)], args := [d1, d2] }
  | _ => none }
def fnExactSymbolsOkRow : OpenClaim := { program := "ytgconjollemjiaa", sum := "fb52a12a32d6ea231c982e1702bc0add59b673d53475c41d5f4cc5412588e7c4", func := "loop.example/g00977/laws.FnExactSymbolsOk", spec := "fnExactSymbolsOk", apart := false }
def FnExactSymbolsOkSaid : Prop := fnExactSymbolsOkRow.holds Try.pinned (OpenSpec.ofChange fnExactSymbolsOkSpec)

/-- ITS FALSE NEIGHBOUR: 'it returns false'. Refute it at one input. -/
def fnExactSymbolsOkWrong : ChangeSpec := { name := "fnExactSymbolsOk", fn := fun _ => fun
  | [d1, d2] => { results := [.lit (.bool false)], args := [d1, d2] }
  | _ => none }
def FnExactSymbolsOkWrongFalsely : Prop := fnExactSymbolsOkRow.holds Try.pinned (OpenSpec.ofChange fnExactSymbolsOkWrong)

/-- 'laws.FnExactSymbolsOfWord': WHATEVER THE INPUT: true; the input reads as it did. -/
def fnExactSymbolsOfWordSpec : ChangeSpec := { name := "fnExactSymbolsOfWord", fn := fun _ => fun
  | [d] => { results := [.lit (.bool true)], args := [d] }
  | _ => none }
def fnExactSymbolsOfWordRow : OpenClaim := { program := "ytgconjollemjiaa", sum := "fb52a12a32d6ea231c982e1702bc0add59b673d53475c41d5f4cc5412588e7c4", func := "loop.example/g00977/laws.FnExactSymbolsOfWord", spec := "fnExactSymbolsOfWord", apart := false }
def FnExactSymbolsOfWordSaid : Prop := fnExactSymbolsOfWordRow.holds Try.pinned (OpenSpec.ofChange fnExactSymbolsOfWordSpec)

/-- ITS FALSE NEIGHBOUR: 'it returns false'. Refute it at one input. -/
def fnExactSymbolsOfWordWrong : ChangeSpec := { name := "fnExactSymbolsOfWord", fn := fun _ => fun
  | [d] => { results := [.lit (.bool false)], args := [d] }
  | _ => none }
def FnExactSymbolsOfWordWrongFalsely : Prop := fnExactSymbolsOfWordRow.holds Try.pinned (OpenSpec.ofChange fnExactSymbolsOfWordWrong)

/-- 'laws.FnExactGfInv': WHATEVER THE INPUT: true; the input reads as it did. -/
def fnExactGfInvSpec : ChangeSpec := { name := "fnExactGfInv", fn := fun _ => fun
  | [d] => { results := [.lit (.bool true)], args := [d] }
  | _ => none }
def fnExactGfInvRow : OpenClaim := { program := "ytgconjollemjiaa", sum := "fb52a12a32d6ea231c982e1702bc0add59b673d53475c41d5f4cc5412588e7c4", func := "loop.example/g00977/laws.FnExactGfInv", spec := "fnExactGfInv", apart := false }
def FnExactGfInvSaid : Prop := fnExactGfInvRow.holds Try.pinned (OpenSpec.ofChange fnExactGfInvSpec)

/-- ITS FALSE NEIGHBOUR: 'it returns false'. Refute it at one input. -/
def fnExactGfInvWrong : ChangeSpec := { name := "fnExactGfInv", fn := fun _ => fun
  | [d] => { results := [.lit (.bool false)], args := [d] }
  | _ => none }
def FnExactGfInvWrongFalsely : Prop := fnExactGfInvRow.holds Try.pinned (OpenSpec.ofChange fnExactGfInvWrong)

/-- 'laws.FnExactGfPow': WHATEVER THE INPUT: true; the input reads as it did. -/
def fnExactGfPowSpec : ChangeSpec := { name := "fnExactGfPow", fn := fun _ => fun
  | [d1, d2] => { results := [.lit (.bool true)], args := [d1, d2] }
  | _ => none }
def fnExactGfPowRow : OpenClaim := { program := "ytgconjollemjiaa", sum := "fb52a12a32d6ea231c982e1702bc0add59b673d53475c41d5f4cc5412588e7c4", func := "loop.example/g00977/laws.FnExactGfPow", spec := "fnExactGfPow", apart := false }
def FnExactGfPowSaid : Prop := fnExactGfPowRow.holds Try.pinned (OpenSpec.ofChange fnExactGfPowSpec)

/-- ITS FALSE NEIGHBOUR: 'it returns false'. Refute it at one input. -/
def fnExactGfPowWrong : ChangeSpec := { name := "fnExactGfPow", fn := fun _ => fun
  | [d1, d2] => { results := [.lit (.bool false)], args := [d1, d2] }
  | _ => none }
def FnExactGfPowWrongFalsely : Prop := fnExactGfPowRow.holds Try.pinned (OpenSpec.ofChange fnExactGfPowWrong)

/-- 'laws.FnExactWordOfSymbols': WHATEVER THE INPUT: true; the input reads as it did. -/
def fnExactWordOfSymbolsSpec : ChangeSpec := { name := "fnExactWordOfSymbols", fn := fun _ => fun
  | [d] => { results := [.lit (.bool true)], args := [d] }
  | _ => none }
def fnExactWordOfSymbolsRow : OpenClaim := { program := "ytgconjollemjiaa", sum := "fb52a12a32d6ea231c982e1702bc0add59b673d53475c41d5f4cc5412588e7c4", func := "loop.example/g00977/laws.FnExactWordOfSymbols", spec := "fnExactWordOfSymbols", apart := false }
def FnExactWordOfSymbolsSaid : Prop := fnExactWordOfSymbolsRow.holds Try.pinned (OpenSpec.ofChange fnExactWordOfSymbolsSpec)

/-- ITS FALSE NEIGHBOUR: 'it returns false'. Refute it at one input. -/
def fnExactWordOfSymbolsWrong : ChangeSpec := { name := "fnExactWordOfSymbols", fn := fun _ => fun
  | [d] => { results := [.lit (.bool false)], args := [d] }
  | _ => none }
def FnExactWordOfSymbolsWrongFalsely : Prop := fnExactWordOfSymbolsRow.holds Try.pinned (OpenSpec.ofChange fnExactWordOfSymbolsWrong)

/-- 'laws.FnExactFormatLine': WHATEVER THE INPUT: true; the input reads as it did. -/
def fnExactFormatLineSpec : ChangeSpec := { name := "fnExactFormatLine", fn := fun _ => fun
  | [d] => { results := [.lit (.bool true)], args := [d] }
  | _ => none }
def fnExactFormatLineRow : OpenClaim := { program := "ytgconjollemjiaa", sum := "fb52a12a32d6ea231c982e1702bc0add59b673d53475c41d5f4cc5412588e7c4", func := "loop.example/g00977/laws.FnExactFormatLine", spec := "fnExactFormatLine", apart := false }
def FnExactFormatLineSaid : Prop := fnExactFormatLineRow.holds Try.pinned (OpenSpec.ofChange fnExactFormatLineSpec)

/-- ITS FALSE NEIGHBOUR: 'it returns false'. Refute it at one input. -/
def fnExactFormatLineWrong : ChangeSpec := { name := "fnExactFormatLine", fn := fun _ => fun
  | [d] => { results := [.lit (.bool false)], args := [d] }
  | _ => none }
def FnExactFormatLineWrongFalsely : Prop := fnExactFormatLineRow.holds Try.pinned (OpenSpec.ofChange fnExactFormatLineWrong)

/-- 'laws.FnExactDataOf': WHATEVER THE INPUT: true; the input reads as it did. -/
def fnExactDataOfSpec : ChangeSpec := { name := "fnExactDataOf", fn := fun _ => fun
  | [d] => { results := [.lit (.bool true)], args := [d] }
  | _ => none }
def fnExactDataOfRow : OpenClaim := { program := "ytgconjollemjiaa", sum := "fb52a12a32d6ea231c982e1702bc0add59b673d53475c41d5f4cc5412588e7c4", func := "loop.example/g00977/laws.FnExactDataOf", spec := "fnExactDataOf", apart := false }
def FnExactDataOfSaid : Prop := fnExactDataOfRow.holds Try.pinned (OpenSpec.ofChange fnExactDataOfSpec)

/-- ITS FALSE NEIGHBOUR: 'it returns false'. Refute it at one input. -/
def fnExactDataOfWrong : ChangeSpec := { name := "fnExactDataOf", fn := fun _ => fun
  | [d] => { results := [.lit (.bool false)], args := [d] }
  | _ => none }
def FnExactDataOfWrongFalsely : Prop := fnExactDataOfRow.holds Try.pinned (OpenSpec.ofChange fnExactDataOfWrong)

/-- 'laws.FnField': WHATEVER THE INPUT: true; the input reads as it did. -/
def fnFieldSpec : ChangeSpec := { name := "fnField", fn := fun _ => fun
  | [d] => { results := [.lit (.bool true)], args := [d] }
  | _ => none }
def fnFieldRow : OpenClaim := { program := "ytgconjollemjiaa", sum := "fb52a12a32d6ea231c982e1702bc0add59b673d53475c41d5f4cc5412588e7c4", func := "loop.example/g00977/laws.FnField", spec := "fnField", apart := false }
def FnFieldSaid : Prop := fnFieldRow.holds Try.pinned (OpenSpec.ofChange fnFieldSpec)

/-- ITS FALSE NEIGHBOUR: 'it returns false'. Refute it at one input. -/
def fnFieldWrong : ChangeSpec := { name := "fnField", fn := fun _ => fun
  | [d] => { results := [.lit (.bool false)], args := [d] }
  | _ => none }
def FnFieldWrongFalsely : Prop := fnFieldRow.holds Try.pinned (OpenSpec.ofChange fnFieldWrong)

/-- 'laws.FnExactGfLog': WHATEVER THE INPUT: true; the input reads as it did. -/
def fnExactGfLogSpec : ChangeSpec := { name := "fnExactGfLog", fn := fun _ => fun
  | [d] => { results := [.lit (.bool true)], args := [d] }
  | _ => none }
def fnExactGfLogRow : OpenClaim := { program := "ytgconjollemjiaa", sum := "fb52a12a32d6ea231c982e1702bc0add59b673d53475c41d5f4cc5412588e7c4", func := "loop.example/g00977/laws.FnExactGfLog", spec := "fnExactGfLog", apart := false }
def FnExactGfLogSaid : Prop := fnExactGfLogRow.holds Try.pinned (OpenSpec.ofChange fnExactGfLogSpec)

/-- ITS FALSE NEIGHBOUR: 'it returns false'. Refute it at one input. -/
def fnExactGfLogWrong : ChangeSpec := { name := "fnExactGfLog", fn := fun _ => fun
  | [d] => { results := [.lit (.bool false)], args := [d] }
  | _ => none }
def FnExactGfLogWrongFalsely : Prop := fnExactGfLogRow.holds Try.pinned (OpenSpec.ofChange fnExactGfLogWrong)

/-- 'laws.FnPowers': WHATEVER THE INPUT: true; the input reads as it did. -/
def fnPowersSpec : ChangeSpec := { name := "fnPowers", fn := fun _ => fun
  | [d] => { results := [.lit (.bool true)], args := [d] }
  | _ => none }
def fnPowersRow : OpenClaim := { program := "ytgconjollemjiaa", sum := "fb52a12a32d6ea231c982e1702bc0add59b673d53475c41d5f4cc5412588e7c4", func := "loop.example/g00977/laws.FnPowers", spec := "fnPowers", apart := false }
def FnPowersSaid : Prop := fnPowersRow.holds Try.pinned (OpenSpec.ofChange fnPowersSpec)

/-- ITS FALSE NEIGHBOUR: 'it returns false'. Refute it at one input. -/
def fnPowersWrong : ChangeSpec := { name := "fnPowers", fn := fun _ => fun
  | [d] => { results := [.lit (.bool false)], args := [d] }
  | _ => none }
def FnPowersWrongFalsely : Prop := fnPowersRow.holds Try.pinned (OpenSpec.ofChange fnPowersWrong)

/-- 'laws.FnWordSymbols': WHATEVER THE INPUT: true; the input reads as it did. -/
def fnWordSymbolsSpec : ChangeSpec := { name := "fnWordSymbols", fn := fun _ => fun
  | [d] => { results := [.lit (.bool true)], args := [d] }
  | _ => none }
def fnWordSymbolsRow : OpenClaim := { program := "ytgconjollemjiaa", sum := "fb52a12a32d6ea231c982e1702bc0add59b673d53475c41d5f4cc5412588e7c4", func := "loop.example/g00977/laws.FnWordSymbols", spec := "fnWordSymbols", apart := false }
def FnWordSymbolsSaid : Prop := fnWordSymbolsRow.holds Try.pinned (OpenSpec.ofChange fnWordSymbolsSpec)

/-- ITS FALSE NEIGHBOUR: 'it returns false'. Refute it at one input. -/
def fnWordSymbolsWrong : ChangeSpec := { name := "fnWordSymbols", fn := fun _ => fun
  | [d] => { results := [.lit (.bool false)], args := [d] }
  | _ => none }
def FnWordSymbolsWrongFalsely : Prop := fnWordSymbolsRow.holds Try.pinned (OpenSpec.ofChange fnWordSymbolsWrong)

/-- 'laws.FnLinear': WHATEVER THE INPUT: true; the input reads as it did. -/
def fnLinearSpec : ChangeSpec := { name := "fnLinear", fn := fun _ => fun
  | [d] => { results := [.lit (.bool true)], args := [d] }
  | _ => none }
def fnLinearRow : OpenClaim := { program := "ytgconjollemjiaa", sum := "fb52a12a32d6ea231c982e1702bc0add59b673d53475c41d5f4cc5412588e7c4", func := "loop.example/g00977/laws.FnLinear", spec := "fnLinear", apart := false }
def FnLinearSaid : Prop := fnLinearRow.holds Try.pinned (OpenSpec.ofChange fnLinearSpec)

/-- ITS FALSE NEIGHBOUR: 'it returns false'. Refute it at one input. -/
def fnLinearWrong : ChangeSpec := { name := "fnLinear", fn := fun _ => fun
  | [d] => { results := [.lit (.bool false)], args := [d] }
  | _ => none }
def FnLinearWrongFalsely : Prop := fnLinearRow.holds Try.pinned (OpenSpec.ofChange fnLinearWrong)

/-- 'laws.FnDistance': WHATEVER THE INPUT: true; the input reads as it did. -/
def fnDistanceSpec : ChangeSpec := { name := "fnDistance", fn := fun _ => fun
  | [d] => { results := [.lit (.bool true)], args := [d] }
  | _ => none }
def fnDistanceRow : OpenClaim := { program := "ytgconjollemjiaa", sum := "fb52a12a32d6ea231c982e1702bc0add59b673d53475c41d5f4cc5412588e7c4", func := "loop.example/g00977/laws.FnDistance", spec := "fnDistance", apart := false }
def FnDistanceSaid : Prop := fnDistanceRow.holds Try.pinned (OpenSpec.ofChange fnDistanceSpec)

/-- ITS FALSE NEIGHBOUR: 'it returns false'. Refute it at one input. -/
def fnDistanceWrong : ChangeSpec := { name := "fnDistance", fn := fun _ => fun
  | [d] => { results := [.lit (.bool false)], args := [d] }
  | _ => none }
def FnDistanceWrongFalsely : Prop := fnDistanceRow.holds Try.pinned (OpenSpec.ofChange fnDistanceWrong)

/-- 'laws.FnExactWordOk': WHATEVER THE INPUT: true; the input reads as it did. -/
def fnExactWordOkSpec : ChangeSpec := { name := "fnExactWordOk", fn := fun _ => fun
  | [d] => { results := [.lit (.bool true)], args := [d] }
  | _ => none }
def fnExactWordOkRow : OpenClaim := { program := "ytgconjollemjiaa", sum := "fb52a12a32d6ea231c982e1702bc0add59b673d53475c41d5f4cc5412588e7c4", func := "loop.example/g00977/laws.FnExactWordOk", spec := "fnExactWordOk", apart := false }
def FnExactWordOkSaid : Prop := fnExactWordOkRow.holds Try.pinned (OpenSpec.ofChange fnExactWordOkSpec)

/-- ITS FALSE NEIGHBOUR: 'it returns false'. Refute it at one input. -/
def fnExactWordOkWrong : ChangeSpec := { name := "fnExactWordOk", fn := fun _ => fun
  | [d] => { results := [.lit (.bool false)], args := [d] }
  | _ => none }
def FnExactWordOkWrongFalsely : Prop := fnExactWordOkRow.holds Try.pinned (OpenSpec.ofChange fnExactWordOkWrong)

/-- 'laws.FnExactSyndromes': WHATEVER THE INPUT: true; the input reads as it did. -/
def fnExactSyndromesSpec : ChangeSpec := { name := "fnExactSyndromes", fn := fun _ => fun
  | [d] => { results := [.lit (.bool true)], args := [d] }
  | _ => none }
def fnExactSyndromesRow : OpenClaim := { program := "ytgconjollemjiaa", sum := "fb52a12a32d6ea231c982e1702bc0add59b673d53475c41d5f4cc5412588e7c4", func := "loop.example/g00977/laws.FnExactSyndromes", spec := "fnExactSyndromes", apart := false }
def FnExactSyndromesSaid : Prop := fnExactSyndromesRow.holds Try.pinned (OpenSpec.ofChange fnExactSyndromesSpec)

/-- ITS FALSE NEIGHBOUR: 'it returns false'. Refute it at one input. -/
def fnExactSyndromesWrong : ChangeSpec := { name := "fnExactSyndromes", fn := fun _ => fun
  | [d] => { results := [.lit (.bool false)], args := [d] }
  | _ => none }
def FnExactSyndromesWrongFalsely : Prop := fnExactSyndromesRow.holds Try.pinned (OpenSpec.ofChange fnExactSyndromesWrong)

/-- 'laws.FnExactEncodeSymbols': WHATEVER THE INPUT: true; the input reads as it did. -/
def fnExactEncodeSymbolsSpec : ChangeSpec := { name := "fnExactEncodeSymbols", fn := fun _ => fun
  | [d] => { results := [.lit (.bool true)], args := [d] }
  | _ => none }
def fnExactEncodeSymbolsRow : OpenClaim := { program := "ytgconjollemjiaa", sum := "fb52a12a32d6ea231c982e1702bc0add59b673d53475c41d5f4cc5412588e7c4", func := "loop.example/g00977/laws.FnExactEncodeSymbols", spec := "fnExactEncodeSymbols", apart := false }
def FnExactEncodeSymbolsSaid : Prop := fnExactEncodeSymbolsRow.holds Try.pinned (OpenSpec.ofChange fnExactEncodeSymbolsSpec)

/-- ITS FALSE NEIGHBOUR: 'it returns false'. Refute it at one input. -/
def fnExactEncodeSymbolsWrong : ChangeSpec := { name := "fnExactEncodeSymbols", fn := fun _ => fun
  | [d] => { results := [.lit (.bool false)], args := [d] }
  | _ => none }
def FnExactEncodeSymbolsWrongFalsely : Prop := fnExactEncodeSymbolsRow.holds Try.pinned (OpenSpec.ofChange fnExactEncodeSymbolsWrong)

/-- 'laws.FnExactEncodeLine': WHATEVER THE INPUT: true; the input reads as it did. -/
def fnExactEncodeLineSpec : ChangeSpec := { name := "fnExactEncodeLine", fn := fun _ => fun
  | [d] => { results := [.lit (.bool true)], args := [d] }
  | _ => none }
def fnExactEncodeLineRow : OpenClaim := { program := "ytgconjollemjiaa", sum := "fb52a12a32d6ea231c982e1702bc0add59b673d53475c41d5f4cc5412588e7c4", func := "loop.example/g00977/laws.FnExactEncodeLine", spec := "fnExactEncodeLine", apart := false }
def FnExactEncodeLineSaid : Prop := fnExactEncodeLineRow.holds Try.pinned (OpenSpec.ofChange fnExactEncodeLineSpec)

/-- ITS FALSE NEIGHBOUR: 'it returns false'. Refute it at one input. -/
def fnExactEncodeLineWrong : ChangeSpec := { name := "fnExactEncodeLine", fn := fun _ => fun
  | [d] => { results := [.lit (.bool false)], args := [d] }
  | _ => none }
def FnExactEncodeLineWrongFalsely : Prop := fnExactEncodeLineRow.holds Try.pinned (OpenSpec.ofChange fnExactEncodeLineWrong)

/-- 'laws.FnExactCorrectWord': WHATEVER THE INPUT: true; the input reads as it did. -/
def fnExactCorrectWordSpec : ChangeSpec := { name := "fnExactCorrectWord", fn := fun _ => fun
  | [d] => { results := [.lit (.bool true)], args := [d] }
  | _ => none }
def fnExactCorrectWordRow : OpenClaim := { program := "ytgconjollemjiaa", sum := "fb52a12a32d6ea231c982e1702bc0add59b673d53475c41d5f4cc5412588e7c4", func := "loop.example/g00977/laws.FnExactCorrectWord", spec := "fnExactCorrectWord", apart := false }
def FnExactCorrectWordSaid : Prop := fnExactCorrectWordRow.holds Try.pinned (OpenSpec.ofChange fnExactCorrectWordSpec)

/-- ITS FALSE NEIGHBOUR: 'it returns false'. Refute it at one input. -/
def fnExactCorrectWordWrong : ChangeSpec := { name := "fnExactCorrectWord", fn := fun _ => fun
  | [d] => { results := [.lit (.bool false)], args := [d] }
  | _ => none }
def FnExactCorrectWordWrongFalsely : Prop := fnExactCorrectWordRow.holds Try.pinned (OpenSpec.ofChange fnExactCorrectWordWrong)

/-- 'laws.FnExactArrayOk': WHATEVER THE INPUT: true; the input reads as it did. -/
def fnExactArrayOkSpec : ChangeSpec := { name := "fnExactArrayOk", fn := fun _ => fun
  | [d1, d2] => { results := [.lit (.bool true)], args := [d1, d2] }
  | _ => none }
def fnExactArrayOkRow : OpenClaim := { program := "ytgconjollemjiaa", sum := "fb52a12a32d6ea231c982e1702bc0add59b673d53475c41d5f4cc5412588e7c4", func := "loop.example/g00977/laws.FnExactArrayOk", spec := "fnExactArrayOk", apart := false }
def FnExactArrayOkSaid : Prop := fnExactArrayOkRow.holds Try.pinned (OpenSpec.ofChange fnExactArrayOkSpec)

/-- ITS FALSE NEIGHBOUR: 'it returns false'. Refute it at one input. -/
def fnExactArrayOkWrong : ChangeSpec := { name := "fnExactArrayOk", fn := fun _ => fun
  | [d1, d2] => { results := [.lit (.bool false)], args := [d1, d2] }
  | _ => none }
def FnExactArrayOkWrongFalsely : Prop := fnExactArrayOkRow.holds Try.pinned (OpenSpec.ofChange fnExactArrayOkWrong)

/-- 'laws.FnLineWords': WHATEVER THE INPUT: true; the input reads as it did. -/
def fnLineWordsSpec : ChangeSpec := { name := "fnLineWords", fn := fun _ => fun
  | [d] => { results := [.lit (.bool true)], args := [d] }
  | _ => none }
def fnLineWordsRow : OpenClaim := { program := "ytgconjollemjiaa", sum := "fb52a12a32d6ea231c982e1702bc0add59b673d53475c41d5f4cc5412588e7c4", func := "loop.example/g00977/laws.FnLineWords", spec := "fnLineWords", apart := false }
def FnLineWordsSaid : Prop := fnLineWordsRow.holds Try.pinned (OpenSpec.ofChange fnLineWordsSpec)

/-- ITS FALSE NEIGHBOUR: 'it returns false'. Refute it at one input. -/
def fnLineWordsWrong : ChangeSpec := { name := "fnLineWords", fn := fun _ => fun
  | [d] => { results := [.lit (.bool false)], args := [d] }
  | _ => none }
def FnLineWordsWrongFalsely : Prop := fnLineWordsRow.holds Try.pinned (OpenSpec.ofChange fnLineWordsWrong)

/-- 'laws.FnExactDecodeLine': WHATEVER THE INPUT: true; the input reads as it did. -/
def fnExactDecodeLineSpec : ChangeSpec := { name := "fnExactDecodeLine", fn := fun _ => fun
  | [d] => { results := [.lit (.bool true)], args := [d] }
  | _ => none }
def fnExactDecodeLineRow : OpenClaim := { program := "ytgconjollemjiaa", sum := "fb52a12a32d6ea231c982e1702bc0add59b673d53475c41d5f4cc5412588e7c4", func := "loop.example/g00977/laws.FnExactDecodeLine", spec := "fnExactDecodeLine", apart := false }
def FnExactDecodeLineSaid : Prop := fnExactDecodeLineRow.holds Try.pinned (OpenSpec.ofChange fnExactDecodeLineSpec)

/-- ITS FALSE NEIGHBOUR: 'it returns false'. Refute it at one input. -/
def fnExactDecodeLineWrong : ChangeSpec := { name := "fnExactDecodeLine", fn := fun _ => fun
  | [d] => { results := [.lit (.bool false)], args := [d] }
  | _ => none }
def FnExactDecodeLineWrongFalsely : Prop := fnExactDecodeLineRow.holds Try.pinned (OpenSpec.ofChange fnExactDecodeLineWrong)

/-- 'laws.FnExactRowDecayed': WHATEVER THE INPUT: true; the input reads as it did. -/
def fnExactRowDecayedSpec : ChangeSpec := { name := "fnExactRowDecayed", fn := fun _ => fun
  | [d1, d2, d3, d4, d5] => { results := [.lit (.bool true)], args := [d1, d2, d3, d4, d5] }
  | _ => none }
def fnExactRowDecayedRow : OpenClaim := { program := "ytgconjollemjiaa", sum := "fb52a12a32d6ea231c982e1702bc0add59b673d53475c41d5f4cc5412588e7c4", func := "loop.example/g00977/laws.FnExactRowDecayed", spec := "fnExactRowDecayed", apart := false }
def FnExactRowDecayedSaid : Prop := fnExactRowDecayedRow.holds Try.pinned (OpenSpec.ofChange fnExactRowDecayedSpec)

/-- ITS FALSE NEIGHBOUR: 'it returns false'. Refute it at one input. -/
def fnExactRowDecayedWrong : ChangeSpec := { name := "fnExactRowDecayed", fn := fun _ => fun
  | [d1, d2, d3, d4, d5] => { results := [.lit (.bool false)], args := [d1, d2, d3, d4, d5] }
  | _ => none }
def FnExactRowDecayedWrongFalsely : Prop := fnExactRowDecayedRow.holds Try.pinned (OpenSpec.ofChange fnExactRowDecayedWrong)

/-- 'laws.FnExactArrayNew': WHATEVER THE INPUT: true; the input reads as it did. -/
def fnExactArrayNewSpec : ChangeSpec := { name := "fnExactArrayNew", fn := fun _ => fun
  | [d] => { results := [.lit (.bool true)], args := [d] }
  | _ => none }
def fnExactArrayNewRow : OpenClaim := { program := "ytgconjollemjiaa", sum := "fb52a12a32d6ea231c982e1702bc0add59b673d53475c41d5f4cc5412588e7c4", func := "loop.example/g00977/laws.FnExactArrayNew", spec := "fnExactArrayNew", apart := false }
def FnExactArrayNewSaid : Prop := fnExactArrayNewRow.holds Try.pinned (OpenSpec.ofChange fnExactArrayNewSpec)

/-- ITS FALSE NEIGHBOUR: 'it returns false'. Refute it at one input. -/
def fnExactArrayNewWrong : ChangeSpec := { name := "fnExactArrayNew", fn := fun _ => fun
  | [d] => { results := [.lit (.bool false)], args := [d] }
  | _ => none }
def FnExactArrayNewWrongFalsely : Prop := fnExactArrayNewRow.holds Try.pinned (OpenSpec.ofChange fnExactArrayNewWrong)

/-- 'laws.FnExactLoadCell': WHATEVER THE INPUT: true; the input reads as it did. -/
def fnExactLoadCellSpec : ChangeSpec := { name := "fnExactLoadCell", fn := fun _ => fun
  | [d1, d2, d3] => { results := [.lit (.bool true)], args := [d1, d2, d3] }
  | _ => none }
def fnExactLoadCellRow : OpenClaim := { program := "ytgconjollemjiaa", sum := "fb52a12a32d6ea231c982e1702bc0add59b673d53475c41d5f4cc5412588e7c4", func := "loop.example/g00977/laws.FnExactLoadCell", spec := "fnExactLoadCell", apart := false }
def FnExactLoadCellSaid : Prop := fnExactLoadCellRow.holds Try.pinned (OpenSpec.ofChange fnExactLoadCellSpec)

/-- ITS FALSE NEIGHBOUR: 'it returns false'. Refute it at one input. -/
def fnExactLoadCellWrong : ChangeSpec := { name := "fnExactLoadCell", fn := fun _ => fun
  | [d1, d2, d3] => { results := [.lit (.bool false)], args := [d1, d2, d3] }
  | _ => none }
def FnExactLoadCellWrongFalsely : Prop := fnExactLoadCellRow.holds Try.pinned (OpenSpec.ofChange fnExactLoadCellWrong)

/-- 'laws.FnExactTimePasses': WHATEVER THE INPUT: true; the input reads as it did. -/
def fnExactTimePassesSpec : ChangeSpec := { name := "fnExactTimePasses", fn := fun _ => fun
  | [d1, d2, d3] => { results := [.lit (.bool true)], args := [d1, d2, d3] }
  | _ => none }
def fnExactTimePassesRow : OpenClaim := { program := "ytgconjollemjiaa", sum := "fb52a12a32d6ea231c982e1702bc0add59b673d53475c41d5f4cc5412588e7c4", func := "loop.example/g00977/laws.FnExactTimePasses", spec := "fnExactTimePasses", apart := false }
def FnExactTimePassesSaid : Prop := fnExactTimePassesRow.holds Try.pinned (OpenSpec.ofChange fnExactTimePassesSpec)

/-- ITS FALSE NEIGHBOUR: 'it returns false'. Refute it at one input. -/
def fnExactTimePassesWrong : ChangeSpec := { name := "fnExactTimePasses", fn := fun _ => fun
  | [d1, d2, d3] => { results := [.lit (.bool false)], args := [d1, d2, d3] }
  | _ => none }
def FnExactTimePassesWrongFalsely : Prop := fnExactTimePassesRow.holds Try.pinned (OpenSpec.ofChange fnExactTimePassesWrong)

/-- 'laws.FnExactFlipSymbol': WHATEVER THE INPUT: true; the input reads as it did. -/
def fnExactFlipSymbolSpec : ChangeSpec := { name := "fnExactFlipSymbol", fn := fun _ => fun
  | [d1, d2, d3, d4, d5] => { results := [.lit (.bool true)], args := [d1, d2, d3, d4, d5] }
  | _ => none }
def fnExactFlipSymbolRow : OpenClaim := { program := "ytgconjollemjiaa", sum := "fb52a12a32d6ea231c982e1702bc0add59b673d53475c41d5f4cc5412588e7c4", func := "loop.example/g00977/laws.FnExactFlipSymbol", spec := "fnExactFlipSymbol", apart := false }
def FnExactFlipSymbolSaid : Prop := fnExactFlipSymbolRow.holds Try.pinned (OpenSpec.ofChange fnExactFlipSymbolSpec)

/-- ITS FALSE NEIGHBOUR: 'it returns false'. Refute it at one input. -/
def fnExactFlipSymbolWrong : ChangeSpec := { name := "fnExactFlipSymbol", fn := fun _ => fun
  | [d1, d2, d3, d4, d5] => { results := [.lit (.bool false)], args := [d1, d2, d3, d4, d5] }
  | _ => none }
def FnExactFlipSymbolWrongFalsely : Prop := fnExactFlipSymbolRow.holds Try.pinned (OpenSpec.ofChange fnExactFlipSymbolWrong)

/-- 'laws.FnExactStoreCell': WHATEVER THE INPUT: true; the input reads as it did. -/
def fnExactStoreCellSpec : ChangeSpec := { name := "fnExactStoreCell", fn := fun _ => fun
  | [d1, d2, d3, d4] => { results := [.lit (.bool true)], args := [d1, d2, d3, d4] }
  | _ => none }
def fnExactStoreCellRow : OpenClaim := { program := "ytgconjollemjiaa", sum := "fb52a12a32d6ea231c982e1702bc0add59b673d53475c41d5f4cc5412588e7c4", func := "loop.example/g00977/laws.FnExactStoreCell", spec := "fnExactStoreCell", apart := false }
def FnExactStoreCellSaid : Prop := fnExactStoreCellRow.holds Try.pinned (OpenSpec.ofChange fnExactStoreCellSpec)

/-- ITS FALSE NEIGHBOUR: 'it returns false'. Refute it at one input. -/
def fnExactStoreCellWrong : ChangeSpec := { name := "fnExactStoreCell", fn := fun _ => fun
  | [d1, d2, d3, d4] => { results := [.lit (.bool false)], args := [d1, d2, d3, d4] }
  | _ => none }
def FnExactStoreCellWrongFalsely : Prop := fnExactStoreCellRow.holds Try.pinned (OpenSpec.ofChange fnExactStoreCellWrong)

/- THE SECOND FORM. 'bulk': how many values and letters a reading holds, each counted each time it is reached (what is shared counts as often as it is met; a slice's spare places count too). A statement '..UptoSaid' is the law's where the arguments, and the package variables that the reading takes, are together of bulk at most 1048576: NARROWER than '..Said'. Prove '..Said' where nothing that the law and all that it calls make is longer than what came in: it says more and counts as full. Else prove '..UptoSaid'. A law counts once. -/
mutual
def uptoBulk {H : Type} : DataW H → Nat
  | .lit (.string bytes) => bytes.length + 1
  | .lit _ => 1
  | .nil => 1
  | .ptr d => uptoBulk d + 1
  | .slice elems spare => uptoBulkAll elems + uptoBulkAll spare + 1
  | .agg parts => uptoBulkAll parts + 1
  | .iface _ d => uptoBulk d + 1
  | .map entries => uptoBulkEntries entries + 1
  | .held _ => 1
def uptoBulkAll {H : Type} : List (DataW H) → Nat
  | [] => 0
  | d :: r => uptoBulk d + uptoBulkAll r
def uptoBulkEntries {H : Type} : List (Lit × DataW H) → Nat
  | [] => 0
  | x :: r => uptoBulkEntry x + uptoBulkEntries r
def uptoBulkEntry {H : Type} : Lit × DataW H → Nat
  | (.string bytes, d) => bytes.length + uptoBulk d + 1
  | (_, d) => uptoBulk d + 1
 end
def uptoSmall : (H : Type) → List (DataW H) → Bool := fun _ ds => decide (uptoBulkAll ds ≤ 1048576)
def OpenSpec.upto (s : _root_.Go.ChangeSpec) : _root_.Go.OpenSpec := { _root_.Go.OpenSpec.ofChange s with cond := some uptoSmall }

/-- 'laws.FnExactGfAdd', WHERE WHAT IT READS IS OF BULK AT MOST 1048576: true; the input reads as it did. -/
def fnExactGfAddUptoRow : OpenClaim := { program := "ytgconjollemjiaa", sum := "fb52a12a32d6ea231c982e1702bc0add59b673d53475c41d5f4cc5412588e7c4", func := "loop.example/g00977/laws.FnExactGfAdd", spec := "fnExactGfAdd", apart := false, narrowed := true }
def FnExactGfAddUptoSaid : Prop := fnExactGfAddUptoRow.holds Try.pinned (OpenSpec.upto fnExactGfAddSpec)

/-- 'laws.FnExactGfMul', WHERE WHAT IT READS IS OF BULK AT MOST 1048576: true; the input reads as it did. -/
def fnExactGfMulUptoRow : OpenClaim := { program := "ytgconjollemjiaa", sum := "fb52a12a32d6ea231c982e1702bc0add59b673d53475c41d5f4cc5412588e7c4", func := "loop.example/g00977/laws.FnExactGfMul", spec := "fnExactGfMul", apart := false, narrowed := true }
def FnExactGfMulUptoSaid : Prop := fnExactGfMulUptoRow.holds Try.pinned (OpenSpec.upto fnExactGfMulSpec)

/-- 'laws.FnExactSymbolsOk', WHERE WHAT IT READS IS OF BULK AT MOST 1048576: true; the input reads as it did. -/
def fnExactSymbolsOkUptoRow : OpenClaim := { program := "ytgconjollemjiaa", sum := "fb52a12a32d6ea231c982e1702bc0add59b673d53475c41d5f4cc5412588e7c4", func := "loop.example/g00977/laws.FnExactSymbolsOk", spec := "fnExactSymbolsOk", apart := false, narrowed := true }
def FnExactSymbolsOkUptoSaid : Prop := fnExactSymbolsOkUptoRow.holds Try.pinned (OpenSpec.upto fnExactSymbolsOkSpec)

/-- 'laws.FnExactSymbolsOfWord', WHERE WHAT IT READS IS OF BULK AT MOST 1048576: true; the input reads as it did. -/
def fnExactSymbolsOfWordUptoRow : OpenClaim := { program := "ytgconjollemjiaa", sum := "fb52a12a32d6ea231c982e1702bc0add59b673d53475c41d5f4cc5412588e7c4", func := "loop.example/g00977/laws.FnExactSymbolsOfWord", spec := "fnExactSymbolsOfWord", apart := false, narrowed := true }
def FnExactSymbolsOfWordUptoSaid : Prop := fnExactSymbolsOfWordUptoRow.holds Try.pinned (OpenSpec.upto fnExactSymbolsOfWordSpec)

/-- 'laws.FnExactGfInv', WHERE WHAT IT READS IS OF BULK AT MOST 1048576: true; the input reads as it did. -/
def fnExactGfInvUptoRow : OpenClaim := { program := "ytgconjollemjiaa", sum := "fb52a12a32d6ea231c982e1702bc0add59b673d53475c41d5f4cc5412588e7c4", func := "loop.example/g00977/laws.FnExactGfInv", spec := "fnExactGfInv", apart := false, narrowed := true }
def FnExactGfInvUptoSaid : Prop := fnExactGfInvUptoRow.holds Try.pinned (OpenSpec.upto fnExactGfInvSpec)

/-- 'laws.FnExactGfPow', WHERE WHAT IT READS IS OF BULK AT MOST 1048576: true; the input reads as it did. -/
def fnExactGfPowUptoRow : OpenClaim := { program := "ytgconjollemjiaa", sum := "fb52a12a32d6ea231c982e1702bc0add59b673d53475c41d5f4cc5412588e7c4", func := "loop.example/g00977/laws.FnExactGfPow", spec := "fnExactGfPow", apart := false, narrowed := true }
def FnExactGfPowUptoSaid : Prop := fnExactGfPowUptoRow.holds Try.pinned (OpenSpec.upto fnExactGfPowSpec)

/-- 'laws.FnExactWordOfSymbols', WHERE WHAT IT READS IS OF BULK AT MOST 1048576: true; the input reads as it did. -/
def fnExactWordOfSymbolsUptoRow : OpenClaim := { program := "ytgconjollemjiaa", sum := "fb52a12a32d6ea231c982e1702bc0add59b673d53475c41d5f4cc5412588e7c4", func := "loop.example/g00977/laws.FnExactWordOfSymbols", spec := "fnExactWordOfSymbols", apart := false, narrowed := true }
def FnExactWordOfSymbolsUptoSaid : Prop := fnExactWordOfSymbolsUptoRow.holds Try.pinned (OpenSpec.upto fnExactWordOfSymbolsSpec)

/-- 'laws.FnExactFormatLine', WHERE WHAT IT READS IS OF BULK AT MOST 1048576: true; the input reads as it did. -/
def fnExactFormatLineUptoRow : OpenClaim := { program := "ytgconjollemjiaa", sum := "fb52a12a32d6ea231c982e1702bc0add59b673d53475c41d5f4cc5412588e7c4", func := "loop.example/g00977/laws.FnExactFormatLine", spec := "fnExactFormatLine", apart := false, narrowed := true }
def FnExactFormatLineUptoSaid : Prop := fnExactFormatLineUptoRow.holds Try.pinned (OpenSpec.upto fnExactFormatLineSpec)

/-- 'laws.FnExactDataOf', WHERE WHAT IT READS IS OF BULK AT MOST 1048576: true; the input reads as it did. -/
def fnExactDataOfUptoRow : OpenClaim := { program := "ytgconjollemjiaa", sum := "fb52a12a32d6ea231c982e1702bc0add59b673d53475c41d5f4cc5412588e7c4", func := "loop.example/g00977/laws.FnExactDataOf", spec := "fnExactDataOf", apart := false, narrowed := true }
def FnExactDataOfUptoSaid : Prop := fnExactDataOfUptoRow.holds Try.pinned (OpenSpec.upto fnExactDataOfSpec)

/-- 'laws.FnField', WHERE WHAT IT READS IS OF BULK AT MOST 1048576: true; the input reads as it did. -/
def fnFieldUptoRow : OpenClaim := { program := "ytgconjollemjiaa", sum := "fb52a12a32d6ea231c982e1702bc0add59b673d53475c41d5f4cc5412588e7c4", func := "loop.example/g00977/laws.FnField", spec := "fnField", apart := false, narrowed := true }
def FnFieldUptoSaid : Prop := fnFieldUptoRow.holds Try.pinned (OpenSpec.upto fnFieldSpec)

/-- 'laws.FnExactGfLog', WHERE WHAT IT READS IS OF BULK AT MOST 1048576: true; the input reads as it did. -/
def fnExactGfLogUptoRow : OpenClaim := { program := "ytgconjollemjiaa", sum := "fb52a12a32d6ea231c982e1702bc0add59b673d53475c41d5f4cc5412588e7c4", func := "loop.example/g00977/laws.FnExactGfLog", spec := "fnExactGfLog", apart := false, narrowed := true }
def FnExactGfLogUptoSaid : Prop := fnExactGfLogUptoRow.holds Try.pinned (OpenSpec.upto fnExactGfLogSpec)

/-- 'laws.FnPowers', WHERE WHAT IT READS IS OF BULK AT MOST 1048576: true; the input reads as it did. -/
def fnPowersUptoRow : OpenClaim := { program := "ytgconjollemjiaa", sum := "fb52a12a32d6ea231c982e1702bc0add59b673d53475c41d5f4cc5412588e7c4", func := "loop.example/g00977/laws.FnPowers", spec := "fnPowers", apart := false, narrowed := true }
def FnPowersUptoSaid : Prop := fnPowersUptoRow.holds Try.pinned (OpenSpec.upto fnPowersSpec)

/-- 'laws.FnWordSymbols', WHERE WHAT IT READS IS OF BULK AT MOST 1048576: true; the input reads as it did. -/
def fnWordSymbolsUptoRow : OpenClaim := { program := "ytgconjollemjiaa", sum := "fb52a12a32d6ea231c982e1702bc0add59b673d53475c41d5f4cc5412588e7c4", func := "loop.example/g00977/laws.FnWordSymbols", spec := "fnWordSymbols", apart := false, narrowed := true }
def FnWordSymbolsUptoSaid : Prop := fnWordSymbolsUptoRow.holds Try.pinned (OpenSpec.upto fnWordSymbolsSpec)

/-- 'laws.FnLinear', WHERE WHAT IT READS IS OF BULK AT MOST 1048576: true; the input reads as it did. -/
def fnLinearUptoRow : OpenClaim := { program := "ytgconjollemjiaa", sum := "fb52a12a32d6ea231c982e1702bc0add59b673d53475c41d5f4cc5412588e7c4", func := "loop.example/g00977/laws.FnLinear", spec := "fnLinear", apart := false, narrowed := true }
def FnLinearUptoSaid : Prop := fnLinearUptoRow.holds Try.pinned (OpenSpec.upto fnLinearSpec)

/-- 'laws.FnDistance', WHERE WHAT IT READS IS OF BULK AT MOST 1048576: true; the input reads as it did. -/
def fnDistanceUptoRow : OpenClaim := { program := "ytgconjollemjiaa", sum := "fb52a12a32d6ea231c982e1702bc0add59b673d53475c41d5f4cc5412588e7c4", func := "loop.example/g00977/laws.FnDistance", spec := "fnDistance", apart := false, narrowed := true }
def FnDistanceUptoSaid : Prop := fnDistanceUptoRow.holds Try.pinned (OpenSpec.upto fnDistanceSpec)

/-- 'laws.FnExactWordOk', WHERE WHAT IT READS IS OF BULK AT MOST 1048576: true; the input reads as it did. -/
def fnExactWordOkUptoRow : OpenClaim := { program := "ytgconjollemjiaa", sum := "fb52a12a32d6ea231c982e1702bc0add59b673d53475c41d5f4cc5412588e7c4", func := "loop.example/g00977/laws.FnExactWordOk", spec := "fnExactWordOk", apart := false, narrowed := true }
def FnExactWordOkUptoSaid : Prop := fnExactWordOkUptoRow.holds Try.pinned (OpenSpec.upto fnExactWordOkSpec)

/-- 'laws.FnExactSyndromes', WHERE WHAT IT READS IS OF BULK AT MOST 1048576: true; the input reads as it did. -/
def fnExactSyndromesUptoRow : OpenClaim := { program := "ytgconjollemjiaa", sum := "fb52a12a32d6ea231c982e1702bc0add59b673d53475c41d5f4cc5412588e7c4", func := "loop.example/g00977/laws.FnExactSyndromes", spec := "fnExactSyndromes", apart := false, narrowed := true }
def FnExactSyndromesUptoSaid : Prop := fnExactSyndromesUptoRow.holds Try.pinned (OpenSpec.upto fnExactSyndromesSpec)

/-- 'laws.FnExactEncodeSymbols', WHERE WHAT IT READS IS OF BULK AT MOST 1048576: true; the input reads as it did. -/
def fnExactEncodeSymbolsUptoRow : OpenClaim := { program := "ytgconjollemjiaa", sum := "fb52a12a32d6ea231c982e1702bc0add59b673d53475c41d5f4cc5412588e7c4", func := "loop.example/g00977/laws.FnExactEncodeSymbols", spec := "fnExactEncodeSymbols", apart := false, narrowed := true }
def FnExactEncodeSymbolsUptoSaid : Prop := fnExactEncodeSymbolsUptoRow.holds Try.pinned (OpenSpec.upto fnExactEncodeSymbolsSpec)

/-- 'laws.FnExactEncodeLine', WHERE WHAT IT READS IS OF BULK AT MOST 1048576: true; the input reads as it did. -/
def fnExactEncodeLineUptoRow : OpenClaim := { program := "ytgconjollemjiaa", sum := "fb52a12a32d6ea231c982e1702bc0add59b673d53475c41d5f4cc5412588e7c4", func := "loop.example/g00977/laws.FnExactEncodeLine", spec := "fnExactEncodeLine", apart := false, narrowed := true }
def FnExactEncodeLineUptoSaid : Prop := fnExactEncodeLineUptoRow.holds Try.pinned (OpenSpec.upto fnExactEncodeLineSpec)

/-- 'laws.FnExactCorrectWord', WHERE WHAT IT READS IS OF BULK AT MOST 1048576: true; the input reads as it did. -/
def fnExactCorrectWordUptoRow : OpenClaim := { program := "ytgconjollemjiaa", sum := "fb52a12a32d6ea231c982e1702bc0add59b673d53475c41d5f4cc5412588e7c4", func := "loop.example/g00977/laws.FnExactCorrectWord", spec := "fnExactCorrectWord", apart := false, narrowed := true }
def FnExactCorrectWordUptoSaid : Prop := fnExactCorrectWordUptoRow.holds Try.pinned (OpenSpec.upto fnExactCorrectWordSpec)

/-- 'laws.FnExactArrayOk', WHERE WHAT IT READS IS OF BULK AT MOST 1048576: true; the input reads as it did. -/
def fnExactArrayOkUptoRow : OpenClaim := { program := "ytgconjollemjiaa", sum := "fb52a12a32d6ea231c982e1702bc0add59b673d53475c41d5f4cc5412588e7c4", func := "loop.example/g00977/laws.FnExactArrayOk", spec := "fnExactArrayOk", apart := false, narrowed := true }
def FnExactArrayOkUptoSaid : Prop := fnExactArrayOkUptoRow.holds Try.pinned (OpenSpec.upto fnExactArrayOkSpec)

/-- 'laws.FnLineWords', WHERE WHAT IT READS IS OF BULK AT MOST 1048576: true; the input reads as it did. -/
def fnLineWordsUptoRow : OpenClaim := { program := "ytgconjollemjiaa", sum := "fb52a12a32d6ea231c982e1702bc0add59b673d53475c41d5f4cc5412588e7c4", func := "loop.example/g00977/laws.FnLineWords", spec := "fnLineWords", apart := false, narrowed := true }
def FnLineWordsUptoSaid : Prop := fnLineWordsUptoRow.holds Try.pinned (OpenSpec.upto fnLineWordsSpec)

/-- 'laws.FnExactDecodeLine', WHERE WHAT IT READS IS OF BULK AT MOST 1048576: true; the input reads as it did. -/
def fnExactDecodeLineUptoRow : OpenClaim := { program := "ytgconjollemjiaa", sum := "fb52a12a32d6ea231c982e1702bc0add59b673d53475c41d5f4cc5412588e7c4", func := "loop.example/g00977/laws.FnExactDecodeLine", spec := "fnExactDecodeLine", apart := false, narrowed := true }
def FnExactDecodeLineUptoSaid : Prop := fnExactDecodeLineUptoRow.holds Try.pinned (OpenSpec.upto fnExactDecodeLineSpec)

/-- 'laws.FnExactRowDecayed', WHERE WHAT IT READS IS OF BULK AT MOST 1048576: true; the input reads as it did. -/
def fnExactRowDecayedUptoRow : OpenClaim := { program := "ytgconjollemjiaa", sum := "fb52a12a32d6ea231c982e1702bc0add59b673d53475c41d5f4cc5412588e7c4", func := "loop.example/g00977/laws.FnExactRowDecayed", spec := "fnExactRowDecayed", apart := false, narrowed := true }
def FnExactRowDecayedUptoSaid : Prop := fnExactRowDecayedUptoRow.holds Try.pinned (OpenSpec.upto fnExactRowDecayedSpec)

/-- 'laws.FnExactArrayNew', WHERE WHAT IT READS IS OF BULK AT MOST 1048576: true; the input reads as it did. -/
def fnExactArrayNewUptoRow : OpenClaim := { program := "ytgconjollemjiaa", sum := "fb52a12a32d6ea231c982e1702bc0add59b673d53475c41d5f4cc5412588e7c4", func := "loop.example/g00977/laws.FnExactArrayNew", spec := "fnExactArrayNew", apart := false, narrowed := true }
def FnExactArrayNewUptoSaid : Prop := fnExactArrayNewUptoRow.holds Try.pinned (OpenSpec.upto fnExactArrayNewSpec)

/-- 'laws.FnExactLoadCell', WHERE WHAT IT READS IS OF BULK AT MOST 1048576: true; the input reads as it did. -/
def fnExactLoadCellUptoRow : OpenClaim := { program := "ytgconjollemjiaa", sum := "fb52a12a32d6ea231c982e1702bc0add59b673d53475c41d5f4cc5412588e7c4", func := "loop.example/g00977/laws.FnExactLoadCell", spec := "fnExactLoadCell", apart := false, narrowed := true }
def FnExactLoadCellUptoSaid : Prop := fnExactLoadCellUptoRow.holds Try.pinned (OpenSpec.upto fnExactLoadCellSpec)

/-- 'laws.FnExactTimePasses', WHERE WHAT IT READS IS OF BULK AT MOST 1048576: true; the input reads as it did. -/
def fnExactTimePassesUptoRow : OpenClaim := { program := "ytgconjollemjiaa", sum := "fb52a12a32d6ea231c982e1702bc0add59b673d53475c41d5f4cc5412588e7c4", func := "loop.example/g00977/laws.FnExactTimePasses", spec := "fnExactTimePasses", apart := false, narrowed := true }
def FnExactTimePassesUptoSaid : Prop := fnExactTimePassesUptoRow.holds Try.pinned (OpenSpec.upto fnExactTimePassesSpec)

/-- 'laws.FnExactFlipSymbol', WHERE WHAT IT READS IS OF BULK AT MOST 1048576: true; the input reads as it did. -/
def fnExactFlipSymbolUptoRow : OpenClaim := { program := "ytgconjollemjiaa", sum := "fb52a12a32d6ea231c982e1702bc0add59b673d53475c41d5f4cc5412588e7c4", func := "loop.example/g00977/laws.FnExactFlipSymbol", spec := "fnExactFlipSymbol", apart := false, narrowed := true }
def FnExactFlipSymbolUptoSaid : Prop := fnExactFlipSymbolUptoRow.holds Try.pinned (OpenSpec.upto fnExactFlipSymbolSpec)

/-- 'laws.FnExactStoreCell', WHERE WHAT IT READS IS OF BULK AT MOST 1048576: true; the input reads as it did. -/
def fnExactStoreCellUptoRow : OpenClaim := { program := "ytgconjollemjiaa", sum := "fb52a12a32d6ea231c982e1702bc0add59b673d53475c41d5f4cc5412588e7c4", func := "loop.example/g00977/laws.FnExactStoreCell", spec := "fnExactStoreCell", apart := false, narrowed := true }
def FnExactStoreCellUptoSaid : Prop := fnExactStoreCellUptoRow.holds Try.pinned (OpenSpec.upto fnExactStoreCellSpec)

end Rows
end Go.Proofs.Ytgconjollemjiaa
