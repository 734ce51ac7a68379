/- ReadyNew: what the program's and the reference's return. -/
import Derived.Test.YtggjheapjklhgaaDoorRdyW
import Derived.Test.YtggjheapjklhgaaDoorCmdW
namespace Go.Proofs.YtggjheapjklhgaaDoor
open Go.RowKit

def readyLen (G : Geo) : Nat := (9 * (bankN G + 1)).toNat
def readyNew (G : Geo) : RdyD := if gOk G = true then ⟨List.replicate (readyLen G) (-1), []⟩ else ⟨[], []⟩
theorem readyLen_bd (G : Geo) : readyLen G ≤ 81 ∧ 9 * (bankN G + 1) = (readyLen G : Int) := by
  have := bankN_bd G
  unfold readyLen; omega
theorem neg_at (n k : Nat) (h : k < n) : (List.replicate n (-1 : Int))[k]? = some (-1) := by rw [List.getElem?_replicate]; simp [h]
theorem stored_y (w : World) (g : Nat) (x y : Value) : Keeps (fun b => b = g) w ((w.setCell ⟨g, 0, none⟩ x).setCell ⟨g, 1, none⟩ y) := (Keeps.set (S := fun b => b = g) (Keeps.refl _ _) ⟨g, 0, none⟩ _ rfl).set ⟨g, 1, none⟩ _ rfl
/-- A summary of the call's own that has one row. -/
theorem OwnY.one {w : World} {B g n : Nat} {xs : List Int} (h : IRow w g n n xs) (hB : B ≤ g) : OwnY w B w.heap.size ⟨⟨some ⟨g, 0, none⟩, n, n⟩, ⟨none, 0, 0⟩, xs, []⟩ :=
  ⟨Nat.le_refl _, OwnS.of_row h hB, OwnS.empty _ _ _ _, fun _ hb => ((OwnS.of_row h hB).lt hb).2, fun _ hb => absurd rfl hb.1, fun _ _ hb => absurd rfl hb.1⟩
theorem OwnY.none_ (w : World) (B : Nat) : OwnY w B w.heap.size ⟨⟨none, 0, 0⟩, ⟨none, 0, 0⟩, [], []⟩ :=
  ⟨Nat.le_refl _, OwnS.empty _ _ _ _, OwnS.empty _ _ _ _, fun _ hb => absurd rfl hb.1, fun _ hb => absurd rfl hb.1, fun _ hb => absurd rfl hb.1⟩

end Go.Proofs.YtggjheapjklhgaaDoor
