/- Distances of a rank: what the program's functions return. -/
import Derived.Test.YtggjheapjklhgaaDoorGapB
namespace Go.Proofs.YtggjheapjklhgaaDoor
open Go.RowKit

theorem kind9 (a : Int) : a = 1 ∨ a = 2 ∨ a = 3 ∨ a = 4 ∨ a = 5 ∨ a = 6 ∨ a = 7 ∨ a = 8 ∨ a = 9 ∨ ((a == 1) = false ∧ (a == 2) = false ∧ (a == 3) = false ∧ (a == 4) = false ∧ (a == 5) = false ∧ (a == 6) = false ∧ (a == 7) = false ∧ (a == 8) = false ∧ (a == 9) = false) := by
  simp only [beq_eq_false_iff_ne, ne_eq]
  omega
end Go.Proofs.YtggjheapjklhgaaDoor
