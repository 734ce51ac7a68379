/-
  No cell of these rows narrows 'for every input' (looked for: loops, veiled, ifaces, maps, wideKeys, modest, calm, conditions, laid).
  DERIVED. THE GIVEN ROWS OF THIS SEAT. 10 by the template 'for every input the law returns true; each argument reads behind the call as it read before'; 0 by the template 'total and deterministic' (their statements: YtnfkkkjookfdiaaTotals.lean).
  GIVEN WITH THE SEED: the statements are not yours to turn. If you find one false, say at which input.
  Laid BY PROGRAM, IN A SANDBOX (cutbox-rows.mjs): the forced cells as the released guide's own fill.sh prints them over the translation 3dbdaf9352464f5b… (all of the seat's roots in one cut). By AI agents, Wed Nov 11 2026. No macro, syntax, notation, axiom, sorry.
-/
import Derived.Test.YtnfkkkjookfdiaaChecked
import GoSem.Claim
import GoSem.ClaimJoined
import GoSem.ClaimMapViews
import Derived.JoinedTies
import Derived.KernelRfl
namespace Go.Proofs.Ytnfkkkjookfdiaa
/- THE CELL 'sum', in the pinned program and in every row, IS THE sha256 OF THE DUMP (.gsa) THAT YtnfkkkjookfdiaaProg.lean LOADS. Nothing in Lean hashes anything: it is a label: what it is worth is what the hold of that sum in a sandbox is worth. -/
noncomputable def Try.pinned : Pinned := { name := "ytnfkkkjookfdiaa", sum := "3dbdaf9352464f5b094600fa87e1b2c550ecfd91a9f52d0da34e3d61a13cbbef", checked := Try.checked }
namespace Rows
def none {H : Type} : Left H := { results := [], args := [] }

/-- 'laws.FnExactFormatLine': WHATEVER THE INPUT: true; the input reads as it did. -/
def fnExactFormatLineSpec : ChangeSpec := { name := "fnExactFormatLine", fn := fun _ => fun
  | [d] => { results := [.lit (.bool true)], args := [d] }
  | _ => none }
def fnExactFormatLineRow : OpenClaim := { program := "ytnfkkkjookfdiaa", sum := "3dbdaf9352464f5b094600fa87e1b2c550ecfd91a9f52d0da34e3d61a13cbbef", func := "loop.example/g00977/laws.FnExactFormatLine", spec := "fnExactFormatLine", apart := false }
def FnExactFormatLineSaid : Prop := fnExactFormatLineRow.holds Try.pinned (OpenSpec.ofChange fnExactFormatLineSpec)

/-- ITS FALSE NEIGHBOUR: 'it returns false'. Refute it at one input. -/
def fnExactFormatLineWrong : ChangeSpec := { name := "fnExactFormatLine", fn := fun _ => fun
  | [d] => { results := [.lit (.bool false)], args := [d] }
  | _ => none }
def FnExactFormatLineWrongFalsely : Prop := fnExactFormatLineRow.holds Try.pinned (OpenSpec.ofChange fnExactFormatLineWrong)

/-- 'laws.FnDistance': WHATEVER THE INPUT: true; the input reads as it did. -/
def fnDistanceSpec : ChangeSpec := { name := "fnDistance", fn := fun _ => fun
  | [d] => { results := [.lit (.bool true)], args := [d] }
  | _ => none }
def fnDistanceRow : OpenClaim := { program := "ytnfkkkjookfdiaa", sum := "3dbdaf9352464f5b094600fa87e1b2c550ecfd91a9f52d0da34e3d61a13cbbef", func := "loop.example/g00977/laws.FnDistance", spec := "fnDistance", apart := false }
def FnDistanceSaid : Prop := fnDistanceRow.holds Try.pinned (OpenSpec.ofChange fnDistanceSpec)

/-- ITS FALSE NEIGHBOUR: 'it returns false'. Refute it at one input. -/
def fnDistanceWrong : ChangeSpec := { name := "fnDistance", fn := fun _ => fun
  | [d] => { results := [.lit (.bool false)], args := [d] }
  | _ => none }
def FnDistanceWrongFalsely : Prop := fnDistanceRow.holds Try.pinned (OpenSpec.ofChange fnDistanceWrong)

/-- 'laws.FnExactArrayOk': WHATEVER THE INPUT: true; the input reads as it did. -/
def fnExactArrayOkSpec : ChangeSpec := { name := "fnExactArrayOk", fn := fun _ => fun
  | [d1, d2] => { results := [.lit (.bool true)], args := [d1, d2] }
  | _ => none }
def fnExactArrayOkRow : OpenClaim := { program := "ytnfkkkjookfdiaa", sum := "3dbdaf9352464f5b094600fa87e1b2c550ecfd91a9f52d0da34e3d61a13cbbef", func := "loop.example/g00977/laws.FnExactArrayOk", spec := "fnExactArrayOk", apart := false }
def FnExactArrayOkSaid : Prop := fnExactArrayOkRow.holds Try.pinned (OpenSpec.ofChange fnExactArrayOkSpec)

/-- ITS FALSE NEIGHBOUR: 'it returns false'. Refute it at one input. -/
def fnExactArrayOkWrong : ChangeSpec := { name := "fnExactArrayOk", fn := fun _ => fun
  | [d1, d2] => { results := [.lit (.bool false)], args := [d1, d2] }
  | _ => none }
def FnExactArrayOkWrongFalsely : Prop := fnExactArrayOkRow.holds Try.pinned (OpenSpec.ofChange fnExactArrayOkWrong)

/-- 'laws.FnLineWords': WHATEVER THE INPUT: true; the input reads as it did. -/
def fnLineWordsSpec : ChangeSpec := { name := "fnLineWords", fn := fun _ => fun
  | [d] => { results := [.lit (.bool true)], args := [d] }
  | _ => none }
def fnLineWordsRow : OpenClaim := { program := "ytnfkkkjookfdiaa", sum := "3dbdaf9352464f5b094600fa87e1b2c550ecfd91a9f52d0da34e3d61a13cbbef", func := "loop.example/g00977/laws.FnLineWords", spec := "fnLineWords", apart := false }
def FnLineWordsSaid : Prop := fnLineWordsRow.holds Try.pinned (OpenSpec.ofChange fnLineWordsSpec)

/-- ITS FALSE NEIGHBOUR: 'it returns false'. Refute it at one input. -/
def fnLineWordsWrong : ChangeSpec := { name := "fnLineWords", fn := fun _ => fun
  | [d] => { results := [.lit (.bool false)], args := [d] }
  | _ => none }
def FnLineWordsWrongFalsely : Prop := fnLineWordsRow.holds Try.pinned (OpenSpec.ofChange fnLineWordsWrong)

/-- 'laws.FnExactRowDecayed': WHATEVER THE INPUT: true; the input reads as it did. -/
def fnExactRowDecayedSpec : ChangeSpec := { name := "fnExactRowDecayed", fn := fun _ => fun
  | [d1, d2, d3, d4, d5] => { results := [.lit (.bool true)], args := [d1, d2, d3, d4, d5] }
  | _ => none }
def fnExactRowDecayedRow : OpenClaim := { program := "ytnfkkkjookfdiaa", sum := "3dbdaf9352464f5b094600fa87e1b2c550ecfd91a9f52d0da34e3d61a13cbbef", func := "loop.example/g00977/laws.FnExactRowDecayed", spec := "fnExactRowDecayed", apart := false }
def FnExactRowDecayedSaid : Prop := fnExactRowDecayedRow.holds Try.pinned (OpenSpec.ofChange fnExactRowDecayedSpec)

/-- ITS FALSE NEIGHBOUR: 'it returns false'. Refute it at one input. -/
def fnExactRowDecayedWrong : ChangeSpec := { name := "fnExactRowDecayed", fn := fun _ => fun
  | [d1, d2, d3, d4, d5] => { results := [.lit (.bool false)], args := [d1, d2, d3, d4, d5] }
  | _ => none }
def FnExactRowDecayedWrongFalsely : Prop := fnExactRowDecayedRow.holds Try.pinned (OpenSpec.ofChange fnExactRowDecayedWrong)

/-- 'laws.FnExactArrayNew': WHATEVER THE INPUT: true; the input reads as it did. -/
def fnExactArrayNewSpec : ChangeSpec := { name := "fnExactArrayNew", fn := fun _ => fun
  | [d] => { results := [.lit (.bool true)], args := [d] }
  | _ => none }
def fnExactArrayNewRow : OpenClaim := { program := "ytnfkkkjookfdiaa", sum := "3dbdaf9352464f5b094600fa87e1b2c550ecfd91a9f52d0da34e3d61a13cbbef", func := "loop.example/g00977/laws.FnExactArrayNew", spec := "fnExactArrayNew", apart := false }
def FnExactArrayNewSaid : Prop := fnExactArrayNewRow.holds Try.pinned (OpenSpec.ofChange fnExactArrayNewSpec)

/-- ITS FALSE NEIGHBOUR: 'it returns false'. Refute it at one input. -/
def fnExactArrayNewWrong : ChangeSpec := { name := "fnExactArrayNew", fn := fun _ => fun
  | [d] => { results := [.lit (.bool false)], args := [d] }
  | _ => none }
def FnExactArrayNewWrongFalsely : Prop := fnExactArrayNewRow.holds Try.pinned (OpenSpec.ofChange fnExactArrayNewWrong)

/-- 'laws.FnExactLoadCell': WHATEVER THE INPUT: true; the input reads as it did. -/
def fnExactLoadCellSpec : ChangeSpec := { name := "fnExactLoadCell", fn := fun _ => fun
  | [d1, d2, d3] => { results := [.lit (.bool true)], args := [d1, d2, d3] }
  | _ => none }
def fnExactLoadCellRow : OpenClaim := { program := "ytnfkkkjookfdiaa", sum := "3dbdaf9352464f5b094600fa87e1b2c550ecfd91a9f52d0da34e3d61a13cbbef", func := "loop.example/g00977/laws.FnExactLoadCell", spec := "fnExactLoadCell", apart := false }
def FnExactLoadCellSaid : Prop := fnExactLoadCellRow.holds Try.pinned (OpenSpec.ofChange fnExactLoadCellSpec)

/-- ITS FALSE NEIGHBOUR: 'it returns false'. Refute it at one input. -/
def fnExactLoadCellWrong : ChangeSpec := { name := "fnExactLoadCell", fn := fun _ => fun
  | [d1, d2, d3] => { results := [.lit (.bool false)], args := [d1, d2, d3] }
  | _ => none }
def FnExactLoadCellWrongFalsely : Prop := fnExactLoadCellRow.holds Try.pinned (OpenSpec.ofChange fnExactLoadCellWrong)

/-- 'laws.FnExactTimePasses': WHATEVER THE INPUT: true; the input reads as it did. -/
def fnExactTimePassesSpec : ChangeSpec := { name := "fnExactTimePasses", fn := fun _ => fun
  | [d1, d2, d3] => { results := [.lit (.bool true)], args := [d1, d2, d3] }
  | _ => none }
def fnExactTimePassesRow : OpenClaim := { program := "ytnfkkkjookfdiaa", sum := "3dbdaf9352464f5b094600fa87e1b2c550ecfd91a9f52d0da34e3d61a13cbbef", func := "loop.example/g00977/laws.FnExactTimePasses", spec := "fnExactTimePasses", apart := false }
def FnExactTimePassesSaid : Prop := fnExactTimePassesRow.holds Try.pinned (OpenSpec.ofChange fnExactTimePassesSpec)

/-- ITS FALSE NEIGHBOUR: 'it returns false'. Refute it at one input. -/
def fnExactTimePassesWrong : ChangeSpec := { name := "fnExactTimePasses", fn := fun _ => fun
  | [d1, d2, d3] => { results := [.lit (.bool false)], args := [d1, d2, d3] }
  | _ => none }
def FnExactTimePassesWrongFalsely : Prop := fnExactTimePassesRow.holds Try.pinned (OpenSpec.ofChange fnExactTimePassesWrong)

/-- 'laws.FnExactFlipSymbol': WHATEVER THE INPUT: true; the input reads as it did. -/
def fnExactFlipSymbolSpec : ChangeSpec := { name := "fnExactFlipSymbol", fn := fun _ => fun
  | [d1, d2, d3, d4, d5] => { results := [.lit (.bool true)], args := [d1, d2, d3, d4, d5] }
  | _ => none }
def fnExactFlipSymbolRow : OpenClaim := { program := "ytnfkkkjookfdiaa", sum := "3dbdaf9352464f5b094600fa87e1b2c550ecfd91a9f52d0da34e3d61a13cbbef", func := "loop.example/g00977/laws.FnExactFlipSymbol", spec := "fnExactFlipSymbol", apart := false }
def FnExactFlipSymbolSaid : Prop := fnExactFlipSymbolRow.holds Try.pinned (OpenSpec.ofChange fnExactFlipSymbolSpec)

/-- ITS FALSE NEIGHBOUR: 'it returns false'. Refute it at one input. -/
def fnExactFlipSymbolWrong : ChangeSpec := { name := "fnExactFlipSymbol", fn := fun _ => fun
  | [d1, d2, d3, d4, d5] => { results := [.lit (.bool false)], args := [d1, d2, d3, d4, d5] }
  | _ => none }
def FnExactFlipSymbolWrongFalsely : Prop := fnExactFlipSymbolRow.holds Try.pinned (OpenSpec.ofChange fnExactFlipSymbolWrong)

/-- 'laws.FnExactStoreCell': WHATEVER THE INPUT: true; the input reads as it did. -/
def fnExactStoreCellSpec : ChangeSpec := { name := "fnExactStoreCell", fn := fun _ => fun
  | [d1, d2, d3, d4] => { results := [.lit (.bool true)], args := [d1, d2, d3, d4] }
  | _ => none }
def fnExactStoreCellRow : OpenClaim := { program := "ytnfkkkjookfdiaa", sum := "3dbdaf9352464f5b094600fa87e1b2c550ecfd91a9f52d0da34e3d61a13cbbef", func := "loop.example/g00977/laws.FnExactStoreCell", spec := "fnExactStoreCell", apart := false }
def FnExactStoreCellSaid : Prop := fnExactStoreCellRow.holds Try.pinned (OpenSpec.ofChange fnExactStoreCellSpec)

/-- ITS FALSE NEIGHBOUR: 'it returns false'. Refute it at one input. -/
def fnExactStoreCellWrong : ChangeSpec := { name := "fnExactStoreCell", fn := fun _ => fun
  | [d1, d2, d3, d4] => { results := [.lit (.bool false)], args := [d1, d2, d3, d4] }
  | _ => none }
def FnExactStoreCellWrongFalsely : Prop := fnExactStoreCellRow.holds Try.pinned (OpenSpec.ofChange fnExactStoreCellWrong)

/- THE SECOND FORM. 'bulk': how many values and letters a reading holds, each counted each time it is reached (what is shared counts as often as it is met; a slice's spare places count too). A statement '..UptoSaid' is the law's where the arguments, and the package variables that the reading takes, are together of bulk at most 1048576: NARROWER than '..Said'. Prove '..Said' where nothing that the law and all that it calls make is longer than what came in: it says more and counts as full. Else prove '..UptoSaid'. A law counts once. -/
mutual
def uptoBulk {H : Type} : DataW H → Nat
  | .lit (.string bytes) => bytes.length + 1
  | .lit _ => 1
  | .nil => 1
  | .ptr d => uptoBulk d + 1
  | .slice elems spare => uptoBulkAll elems + uptoBulkAll spare + 1
  | .agg parts => uptoBulkAll parts + 1
  | .iface _ d => uptoBulk d + 1
  | .map entries => uptoBulkEntries entries + 1
  | .held _ => 1
def uptoBulkAll {H : Type} : List (DataW H) → Nat
  | [] => 0
  | d :: r => uptoBulk d + uptoBulkAll r
def uptoBulkEntries {H : Type} : List (Lit × DataW H) → Nat
  | [] => 0
  | x :: r => uptoBulkEntry x + uptoBulkEntries r
def uptoBulkEntry {H : Type} : Lit × DataW H → Nat
  | (.string bytes, d) => bytes.length + uptoBulk d + 1
  | (_, d) => uptoBulk d + 1
 end
def uptoSmall : (H : Type) → List (DataW H) → Bool := fun _ ds => decide (uptoBulkAll ds ≤ 1048576)
def OpenSpec.upto (s : _root_.Go.ChangeSpec) : _root_.Go.OpenSpec := { _root_.Go.OpenSpec.ofChange s with cond := some uptoSmall }

/-- 'laws.FnExactFormatLine', WHERE WHAT IT READS IS OF BULK AT MOST 1048576: true; the input reads as it did. -/
def fnExactFormatLineUptoRow : OpenClaim := { program := "ytnfkkkjookfdiaa", sum := "3dbdaf9352464f5b094600fa87e1b2c550ecfd91a9f52d0da34e3d61a13cbbef", func := "loop.example/g00977/laws.FnExactFormatLine", spec := "fnExactFormatLine", apart := false, narrowed := true }
def FnExactFormatLineUptoSaid : Prop := fnExactFormatLineUptoRow.holds Try.pinned (OpenSpec.upto fnExactFormatLineSpec)

/-- 'laws.FnDistance', WHERE WHAT IT READS IS OF BULK AT MOST 1048576: true; the input reads as it did. -/
def fnDistanceUptoRow : OpenClaim := { program := "ytnfkkkjookfdiaa", sum := "3dbdaf9352464f5b094600fa87e1b2c550ecfd91a9f52d0da34e3d61a13cbbef", func := "loop.example/g00977/laws.FnDistance", spec := "fnDistance", apart := false, narrowed := true }
def FnDistanceUptoSaid : Prop := fnDistanceUptoRow.holds Try.pinned (OpenSpec.upto fnDistanceSpec)

/-- 'laws.FnExactArrayOk', WHERE WHAT IT READS IS OF BULK AT MOST 1048576: true; the input reads as it did. -/
def fnExactArrayOkUptoRow : OpenClaim := { program := "ytnfkkkjookfdiaa", sum := "3dbdaf9352464f5b094600fa87e1b2c550ecfd91a9f52d0da34e3d61a13cbbef", func := "loop.example/g00977/laws.FnExactArrayOk", spec := "fnExactArrayOk", apart := false, narrowed := true }
def FnExactArrayOkUptoSaid : Prop := fnExactArrayOkUptoRow.holds Try.pinned (OpenSpec.upto fnExactArrayOkSpec)

/-- 'laws.FnLineWords', WHERE WHAT IT READS IS OF BULK AT MOST 1048576: true; the input reads as it did. -/
def fnLineWordsUptoRow : OpenClaim := { program := "ytnfkkkjookfdiaa", sum := "3dbdaf9352464f5b094600fa87e1b2c550ecfd91a9f52d0da34e3d61a13cbbef", func := "loop.example/g00977/laws.FnLineWords", spec := "fnLineWords", apart := false, narrowed := true }
def FnLineWordsUptoSaid : Prop := fnLineWordsUptoRow.holds Try.pinned (OpenSpec.upto fnLineWordsSpec)

/-- 'laws.FnExactRowDecayed', WHERE WHAT IT READS IS OF BULK AT MOST 1048576: true; the input reads as it did. -/
def fnExactRowDecayedUptoRow : OpenClaim := { program := "ytnfkkkjookfdiaa", sum := "3dbdaf9352464f5b094600fa87e1b2c550ecfd91a9f52d0da34e3d61a13cbbef", func := "loop.example/g00977/laws.FnExactRowDecayed", spec := "fnExactRowDecayed", apart := false, narrowed := true }
def FnExactRowDecayedUptoSaid : Prop := fnExactRowDecayedUptoRow.holds Try.pinned (OpenSpec.upto fnExactRowDecayedSpec)

/-- 'laws.FnExactArrayNew', WHERE WHAT IT READS IS OF BULK AT MOST 1048576: true; the input reads as it did. -/
def fnExactArrayNewUptoRow : OpenClaim := { program := "ytnfkkkjookfdiaa", sum := "3dbdaf9352464f5b094600fa87e1b2c550ecfd91a9f52d0da34e3d61a13cbbef", func := "loop.example/g00977/laws.FnExactArrayNew", spec := "fnExactArrayNew", apart := false, narrowed := true }
def FnExactArrayNewUptoSaid : Prop := fnExactArrayNewUptoRow.holds Try.pinned (OpenSpec.upto fnExactArrayNewSpec)

/-- 'laws.FnExactLoadCell', WHERE WHAT IT READS IS OF BULK AT MOST 1048576: true; the input reads as it did. -/
def fnExactLoadCellUptoRow : OpenClaim := { program := "ytnfkkkjookfdiaa", sum := "3dbdaf9352464f5b094600fa87e1b2c550ecfd91a9f52d0da34e3d61a13cbbef", func := "loop.example/g00977/laws.FnExactLoadCell", spec := "fnExactLoadCell", apart := false, narrowed := true }
def FnExactLoadCellUptoSaid : Prop := fnExactLoadCellUptoRow.holds Try.pinned (OpenSpec.upto fnExactLoadCellSpec)

/-- 'laws.FnExactTimePasses', WHERE WHAT IT READS IS OF BULK AT MOST 1048576: true; the input reads as it did. -/
def fnExactTimePassesUptoRow : OpenClaim := { program := "ytnfkkkjookfdiaa", sum := "3dbdaf9352464f5b094600fa87e1b2c550ecfd91a9f52d0da34e3d61a13cbbef", func := "loop.example/g00977/laws.FnExactTimePasses", spec := "fnExactTimePasses", apart := false, narrowed := true }
def FnExactTimePassesUptoSaid : Prop := fnExactTimePassesUptoRow.holds Try.pinned (OpenSpec.upto fnExactTimePassesSpec)

/-- 'laws.FnExactFlipSymbol', WHERE WHAT IT READS IS OF BULK AT MOST 1048576: true; the input reads as it did. -/
def fnExactFlipSymbolUptoRow : OpenClaim := { program := "ytnfkkkjookfdiaa", sum := "3dbdaf9352464f5b094600fa87e1b2c550ecfd91a9f52d0da34e3d61a13cbbef", func := "loop.example/g00977/laws.FnExactFlipSymbol", spec := "fnExactFlipSymbol", apart := false, narrowed := true }
def FnExactFlipSymbolUptoSaid : Prop := fnExactFlipSymbolUptoRow.holds Try.pinned (OpenSpec.upto fnExactFlipSymbolSpec)

/-- 'laws.FnExactStoreCell', WHERE WHAT IT READS IS OF BULK AT MOST 1048576: true; the input reads as it did. -/
def fnExactStoreCellUptoRow : OpenClaim := { program := "ytnfkkkjookfdiaa", sum := "3dbdaf9352464f5b094600fa87e1b2c550ecfd91a9f52d0da34e3d61a13cbbef", func := "loop.example/g00977/laws.FnExactStoreCell", spec := "fnExactStoreCell", apart := false, narrowed := true }
def FnExactStoreCellUptoSaid : Prop := fnExactStoreCellUptoRow.holds Try.pinned (OpenSpec.upto fnExactStoreCellSpec)

end Rows
end Go.Proofs.Ytnfkkkjookfdiaa
