/-
  DERIVED. GIVEN WITH THE SEED: THE CARDS: each row of YtggjheapjklhgaaDoorRows.lean that lists a variable, with what it lists TIED to the program's text (the seventh form; the later family's looks); each row that meets fmt, with fmt's text TOLD by the authors' own Lean function (tested against real Go, not proved from fmt's source: count such statements apart). THE CARD IS WHAT COUNTS. Prove the row's statement (the work); the ties are given (YtggjheapjklhgaaDoorTie.lean); close each card by the builder's one call (the guide's Derived/Test/ToyasCard.lean, 'card_holds'). Laid BY PROGRAM, IN A SANDBOX (cutbox-door.mjs). By AI agents, Wed Nov 11 2026. No macro, syntax, notation, axiom, sorry.
-/
import Derived.Test.YtggjheapjklhgaaDoorRows
import GoSem.ClaimSeven
namespace Go.Proofs.YtggjheapjklhgaaDoor
namespace Rows

/-- THE TIED CARD OF 'laws.FnExactFormatTrace'. -/
def fnExactFormatTraceCard : Claim7 := { stood := { row := fnExactFormatTraceRow, standIns := [], harness := (true, "5f1b98a505da31d3cf722511ab1c26b5f9d369cb1988fb4d8e5d96087cc6231c"), looks := false }, kinds := [], alts := [], laidByText := true, laidKinds := [.data, .data, .data], laidTests := true, laidLooks := .later }
def FnExactFormatTraceCardSaid : Prop := Claim7.holds Tryd.pinned (.plain (OpenSpec.ofChange fnExactFormatTraceSpec)) fnExactFormatTraceCard

/-- THE TIED CARD OF 'laws.FnTraceText'. -/
def fnTraceTextCard : Claim7 := { stood := { row := fnTraceTextRow, standIns := [], harness := (true, "5f1b98a505da31d3cf722511ab1c26b5f9d369cb1988fb4d8e5d96087cc6231c"), looks := false }, kinds := [], alts := [], laidByText := true, laidKinds := [.data, .data, .data], laidTests := true, laidLooks := .later }
def FnTraceTextCardSaid : Prop := Claim7.holds Tryd.pinned (.plain (OpenSpec.ofChange fnTraceTextSpec)) fnTraceTextCard

/-- THE SECOND FORM's CARD OF 'laws.FnExactFormatTrace'. -/
def fnExactFormatTraceUptoCard : Claim7 := { stood := { row := fnExactFormatTraceUptoRow, standIns := [], harness := (true, "5f1b98a505da31d3cf722511ab1c26b5f9d369cb1988fb4d8e5d96087cc6231c"), looks := false }, kinds := [], alts := [], laidByText := true, laidKinds := [.data, .data, .data], laidTests := true, laidLooks := .later }
def FnExactFormatTraceUptoCardSaid : Prop := Claim7.holds Tryd.pinned (.plain (OpenSpec.upto fnExactFormatTraceSpec)) fnExactFormatTraceUptoCard

/-- THE SECOND FORM's CARD OF 'laws.FnTraceText'. -/
def fnTraceTextUptoCard : Claim7 := { stood := { row := fnTraceTextUptoRow, standIns := [], harness := (true, "5f1b98a505da31d3cf722511ab1c26b5f9d369cb1988fb4d8e5d96087cc6231c"), looks := false }, kinds := [], alts := [], laidByText := true, laidKinds := [.data, .data, .data], laidTests := true, laidLooks := .later }
def FnTraceTextUptoCardSaid : Prop := Claim7.holds Tryd.pinned (.plain (OpenSpec.upto fnTraceTextSpec)) fnTraceTextUptoCard
end Rows
end Go.Proofs.YtggjheapjklhgaaDoor
