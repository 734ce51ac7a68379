/- ReadyOk: what the program's and the reference's return. -/
import Derived.Test.YtggjheapjklhgaaDoorRdyN
import Derived.Test.YtggjheapjklhgaaDoorInv
import Derived.Deep.Cut
namespace Go.Proofs.YtggjheapjklhgaaDoor
open Go.RowKit

/-- The command that is kept at a place; is the place used? -/
def cmdAt (G : Geo) (i : Int) : Cmd := ⟨i % 9 + 1, if decide (i / 9 < bankN G) = true then i / 9 else 0, 0, 0⟩
def usedB (G : Geo) (i : Int) : Bool := decide (i / 9 < bankN G) == usesB (i % 9 + 1)
/-- A fresh variable of a command. -/
structure BoxCN (w : World) (g : Nat) : Prop where
  hh : w.heap[g]? = some (.cells #[.int .i64 0, .int .i64 0, .int .i64 0, .int .i64 0] 40 (0, 0))
theorem BoxCN.new_ (w : World) {g : Nat} (h : w.heap.size = g) : BoxCN (w.alloc (.cells #[.int .i64 0, .int .i64 0, .int .i64 0, .int .i64 0] 40)) g := by subst h; exact ⟨heap_alloc_new w _⟩
theorem BoxCN.lt {w : World} {g : Nat} (h : BoxCN w g) : g < w.heap.size := (Array.getElem?_eq_some_iff.1 h.hh).1
theorem BoxCN.old {w w' : World} {g : Nat} (h : BoxCN w g) (hb : Below w.heap.size w w') : BoxCN w' g := ⟨(hb.block g h.lt).trans h.hh⟩
theorem BoxCN.keeps {S : Nat → Prop} {w w' : World} {g : Nat} (h : BoxCN w g) (hk : Keeps S w w') (hs : ¬ S g) : BoxCN w' g := ⟨(hk.block g h.lt hs).trans h.hh⟩
theorem BoxCN.c {w : World} {g : Nat} (h : BoxCN w g) (j : Nat) (hj : j < 4) : w.cell? ⟨g, j, none⟩ = some (.int .i64 0) := by
  rw [cell_of_row w g j _ _ (0, 0) h.hh]
  match j, hj with
  | 0, _ => rfl
  | 1, _ => rfl
  | 2, _ => rfl
  | 3, _ => rfl
theorem BoxCN.fr {w : World} {g : Nat} (h : BoxCN w g) (j : Nat) : w.frozen? ⟨g, j, none⟩ = false := frozen_of_row w g j _ _ h.hh
theorem set4_cells (w : World) (b : Nat) (v0 v1 v2 v3 : Value) {u0 u1 u2 u3 : Value} (h0 : w.cell? ⟨b, 0, none⟩ = some u0) (h1 : w.cell? ⟨b, 1, none⟩ = some u1) (h2 : w.cell? ⟨b, 2, none⟩ = some u2) (h3 : w.cell? ⟨b, 3, none⟩ = some u3) :
    let W := ((((w.setCell ⟨b, 0, none⟩ v0).setCell ⟨b, 1, none⟩ v1).setCell ⟨b, 2, none⟩ v2).setCell ⟨b, 3, none⟩ v3)
    W.cell? ⟨b, 0, none⟩ = some v0 ∧ W.cell? ⟨b, 1, none⟩ = some v1 ∧ W.cell? ⟨b, 2, none⟩ = some v2 ∧ W.cell? ⟨b, 3, none⟩ = some v3 := by
  have o : ∀ (x : World) (i j : Nat) (v : Value), i ≠ j → (x.setCell ⟨b, i, none⟩ v).cell? ⟨b, j, none⟩ = x.cell? ⟨b, j, none⟩ := fun x i j v hij => World.cell?_setCell_other _ _ _ _ (fun e => hij (Addr.mk.inj e).2.1)
  refine ⟨?_, ?_, ?_, ?_⟩
  · rw [o _ 3 0 _ (by decide), o _ 2 0 _ (by decide), o _ 1 0 _ (by decide)]; exact World.cell?_setCell_same _ _ _ h0
  · rw [o _ 3 1 _ (by decide), o _ 2 1 _ (by decide)]; exact World.cell?_setCell_same _ _ _ ((o _ 0 1 _ (by decide)).trans h1)
  · rw [o _ 3 2 _ (by decide)]; exact World.cell?_setCell_same _ _ _ ((o _ 1 2 _ (by decide)).trans ((o _ 0 2 _ (by decide)).trans h2))
  · exact World.cell?_setCell_same _ _ _ ((o _ 2 3 _ (by decide)).trans ((o _ 1 3 _ (by decide)).trans ((o _ 0 3 _ (by decide)).trans h3)))
end Go.Proofs.YtggjheapjklhgaaDoor
