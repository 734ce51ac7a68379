/- ReadyOk: what the program's and the reference's return. -/
import Derived.Test.YtggjheapjklhgaaDoorRdyO
namespace Go.Proofs.YtggjheapjklhgaaDoor
open Go.RowKit

def okL (G : Geo) (xs : List Int) (i : Nat) : Bool := inB (xs.getD i 0) (-1) 1000000 && (usedB G i || xs.getD i 0 == -1)
def okA (xs : List Int) (i : Nat) : Bool := inB (xs.getD i 0) 0 1000000 && (i == 0 || decide (xs.getD (i - 1) 0 < xs.getD i 0))
def allTo (f : Nat → Bool) (n : Nat) : Bool := (List.range n).all f
theorem allTo_succ {f : Nat → Bool} {k : Nat} (h : allTo f k = true) (h1 : f k = true) : allTo f (k + 1) = true := by
  unfold allTo at *
  rw [List.range_succ, List.all_append, h]; simp [h1]
theorem allTo_no {f : Nat → Bool} {k n : Nat} (hk : k < n) (h1 : f k = false) : allTo f n = false := by
  unfold allTo
  rw [List.all_eq_false]
  exact ⟨k, List.mem_range.2 hk, by simp [h1]⟩
def lenY (G : Geo) (D : RdyD) : Bool := (D.last.length : Int) == 9 * (bankN G + 1)
def readyOk (G : Geo) (D : RdyD) : Bool := gOk G && lenY G D && decide (D.acts.length ≤ 4) && allTo (okL G D.last) D.last.length && allTo (okA D.acts) D.acts.length
theorem readyOk_geo {G : Geo} {D : RdyD} (h : gOk G = false) : readyOk G D = false := by unfold readyOk; rw [h]; rfl
theorem readyOk_len {G : Geo} {D : RdyD} (h : lenY G D = false) : readyOk G D = false := by unfold readyOk; rw [h]; simp
theorem readyOk_four {G : Geo} {D : RdyD} (h : decide (D.acts.length ≤ 4) = false) : readyOk G D = false := by unfold readyOk; rw [h]; simp
theorem readyOk_last {G : Geo} {D : RdyD} (h : allTo (okL G D.last) D.last.length = false) : readyOk G D = false := by unfold readyOk; rw [h]; simp
theorem readyOk_acts {G : Geo} {D : RdyD} (h : allTo (okA D.acts) D.acts.length = false) : readyOk G D = false := by unfold readyOk; rw [h]; simp
theorem readyOk_yes {G : Geo} {D : RdyD} (h1 : gOk G = true) (h2 : lenY G D = true) (h3 : decide (D.acts.length ≤ 4) = true) (h4 : allTo (okL G D.last) D.last.length = true) (h5 : allTo (okA D.acts) D.acts.length = true) : readyOk G D = true := by
  unfold readyOk; rw [h1, h2, h3, h4, h5]; rfl
theorem getD_of {xs : List Int} {k : Nat} {x : Int} (h : xs[k]? = some x) : xs.getD k 0 = x := by rw [List.getD_eq_getElem?_getD, h]; rfl
end Go.Proofs.YtggjheapjklhgaaDoor
