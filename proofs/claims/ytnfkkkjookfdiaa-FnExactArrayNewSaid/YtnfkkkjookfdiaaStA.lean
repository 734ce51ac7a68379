/- Storing an array into its variable. -/
import Derived.Test.YtnfkkkjookfdiaaBox
import Derived.Test.YtnfkkkjookfdiaaCpaW
import Derived.Test.YtnfkkkjookfdiaaArrW
namespace Go.Proofs.Ytnfkkkjookfdiaa
open Go.RowKit

theorem OwnA.keepsA {S : Nat → Prop} {w w' : World} {B U : Nat} {A : ArrE} (h : OwnA w B U A) (hk : Keeps S w w') (hs : ∀ b, inA A b → ¬ S b) : OwnA w' B U A :=
  ⟨h.cells.cells_keep hk (fun i e he b hb => hs b (.inl (inC_mem (by rw [List.getElem?_map, he]; rfl) hb))) (fun b hS he => hs b (.inl (.inl he)) hS),
    h.age.keeps hk (fun b hb => hs b (.inr (.inl hb))), h.hits.keeps hk (fun b hb => hs b (.inr (.inr hb))), h.t1, h.t2, h.a12, h.a01, h.a02⟩
/-- A variable of an array type is no block of a content. -/
theorem OwnA.inA_box {w : World} {B U g : Nat} {A : ArrE} {cs : Array Value} (h : OwnA w B U A) (hh : w.heap[g]? = some (.cells cs 41 (0, 0))) : ¬ inA A g := by
  rintro (hb | hb | hb)
  · rcases hb with hb | ⟨p, hp, hb⟩
    · exact row_not h.cells.row hh (by decide) hb
    · obtain ⟨e, he, rfl⟩ := List.mem_map.1 hp
      obtain ⟨i, hi, rfl⟩ := List.mem_iff_getElem.1 he
      exact ints_not (h.cells.own i _ (List.getElem?_eq_getElem hi)) hh (by decide) g hb rfl
  · exact ints_not h.age hh (by decide) g hb rfl
  · exact ints_not h.hits hh (by decide) g hb rfl
theorem OwnA.stored {w w' : World} {B U g : Nat} {A : ArrE} {cs : Array Value} (h : OwnA w B U A) (hh : w.heap[g]? = some (.cells cs 41 (0, 0))) (hk : Keeps (fun b => b = g) w w') : OwnA w' B U A :=
  h.keepsA hk (fun b hb he => h.inA_box (by rw [he] at hb; exact hh) (by rw [he] at hb; exact hb))
/-- The zero of a variable. -/
structure BoxN (w : World) (g : Nat) : Prop where
  hh : w.heap[g]? = some (.cells #[.slice none 0 0, .slice none 0 0, .slice none 0 0] 41 (0, 0))
section
variable {w w' : World} {g : Nat}
theorem BoxN.new (w : World) : BoxN (w.alloc (.cells #[.slice none 0 0, .slice none 0 0, .slice none 0 0] 41)) w.heap.size := ⟨heap_alloc_new w _⟩
theorem BoxN.lt (h : BoxN w g) : g < w.heap.size := (Array.getElem?_eq_some_iff.1 h.hh).1
theorem BoxN.c0 (h : BoxN w g) : w.cell? ⟨g, 0, none⟩ = some (.slice none 0 0) := by rw [cell_of_row w g 0 _ _ (0, 0) h.hh]; simp
theorem BoxN.c1 (h : BoxN w g) : w.cell? ⟨g, 1, none⟩ = some (.slice none 0 0) := by rw [cell_of_row w g 1 _ _ (0, 0) h.hh]; simp
theorem BoxN.c2 (h : BoxN w g) : w.cell? ⟨g, 2, none⟩ = some (.slice none 0 0) := by rw [cell_of_row w g 2 _ _ (0, 0) h.hh]; simp
theorem BoxN.fr (h : BoxN w g) (j : Nat) : w.frozen? ⟨g, j, none⟩ = false := frozen_of_row w g j _ _ h.hh
theorem BoxN.old (h : BoxN w g) (hb : Below w.heap.size w w') : BoxN w' g := ⟨(hb.block g h.lt).trans h.hh⟩
theorem BoxN.stored (h : BoxN w g) (X : ArrE) : BoxV (((w.setCell ⟨g, 0, none⟩ (.slice X.s0.a X.s0.n X.s0.c)).setCell ⟨g, 1, none⟩ (.slice X.s1.a X.s1.n X.s1.c)).setCell ⟨g, 2, none⟩ (.slice X.s2.a X.s2.n X.s2.c)) g X := by
  refine ⟨?_⟩
  simp [World.setCell, Array.getElem?_modify, h.hh]
theorem stored_keeps (w : World) (g : Nat) (a b c : Value) : Keeps (fun b => b = g) w (((w.setCell ⟨g, 0, none⟩ a).setCell ⟨g, 1, none⟩ b).setCell ⟨g, 2, none⟩ c) :=
  (((Keeps.refl (fun b => b = g) w).set ⟨g, 0, none⟩ _ rfl).set ⟨g, 1, none⟩ _ rfl).set ⟨g, 2, none⟩ _ rfl
end
end Go.Proofs.Ytnfkkkjookfdiaa
