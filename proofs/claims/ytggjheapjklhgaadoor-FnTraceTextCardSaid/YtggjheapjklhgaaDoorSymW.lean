/- The symbols of a word: what the program's and the reference's calls return. -/
import Derived.Test.YtggjheapjklhgaaDoorGfW
import Derived.Test.YtggjheapjklhgaaDoorMem
import Derived.Test.YtggjheapjklhgaaDoorLists
namespace Go.Proofs.YtggjheapjklhgaaDoor
open Go.RowKit

/-- All are elements of the field. -/
def allEl (xs : List Int) : Bool := xs.all fun x => inB x 0 15
theorem allEl_snoc (xs : List Int) (x : Int) : allEl (xs ++ [x]) = (allEl xs && inB x 0 15) := by simp [allEl]
theorem allEl_of_take {xs : List Int} {k : Nat} {x : Int} (h : xs[k]? = some x) (hx : inB x 0 15 = false) : allEl xs = false := by
  unfold allEl
  rw [List.all_eq_false]
  exact ⟨x, List.mem_of_getElem? h, by simp [hx]⟩
/-- What SymbolsOk returns. -/
def symOk (xs : List Int) (n : Int) : Bool := allEl xs && ((xs.length : Int) == n)

/-- The symbols of a number, the lowest first. -/
def symN (x : Int) (k : Nat) : List Int := (List.range k).map fun i => bits .and .i64 (x / 2 ^ (4 * i)) 15
theorem symN_succ (x : Int) (k : Nat) : symN x (k + 1) = symN x k ++ [bits .and .i64 (x / 2 ^ (4 * k)) 15] := by simp [symN, List.range_succ]
theorem length_symN (x : Int) (k : Nat) : (symN x k).length = k := by simp [symN]

/-- The symbols of a word; none of a number that is no word. -/
def symW (x : Int) : List Int := if inB x 0 4294967295 then symN x 8 else []
theorem length_symW (x : Int) : (symW x).length ≤ 8 := by unfold symW; split <;> simp [length_symN]
end Go.Proofs.YtggjheapjklhgaaDoor
