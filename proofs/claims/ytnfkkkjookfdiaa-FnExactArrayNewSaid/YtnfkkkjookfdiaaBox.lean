/- Boxes of arguments and of local arrays; more on arrays of the call's own; arguments that came in, opened. -/
import Derived.Test.YtnfkkkjookfdiaaAokW
import Derived.Test.YtnfkkkjookfdiaaOpenA
import Derived.Test.YtnfkkkjookfdiaaInv
namespace Go.Proofs.Ytnfkkkjookfdiaa
open Go.ChangeShapes Go.WideShapes Go.ChangeAt Go.RowKit Go.Joins Go.Deep

theorem BoxG.new_ (w : World) (t : TypeId) (G : Geo) {g : Nat} (h : w.heap.size = g) : BoxG (w.alloc (.cells #[.int .i64 G.a, .int .i64 G.b, .int .i64 G.r, .int .i64 G.c] t)) g G := by subst h; exact BoxG.new w t G
/-- The cells of boxed limits. -/
structure BoxL (w : World) (g : Nat) (la lh : Int) : Prop where
  lt : g < w.heap.size
  c0 : w.cell? ⟨g, 0, none⟩ = some (.int .i64 la)
  c1 : w.cell? ⟨g, 1, none⟩ = some (.int .i64 lh)
theorem BoxL.new_ (w : World) (t : TypeId) (la lh : Int) {g : Nat} (h : w.heap.size = g) : BoxL (w.alloc (.cells #[.int .i64 la, .int .i64 lh] t)) g la lh := by
  subst h
  have h := box_at w [.int .i64 la, .int .i64 lh] t
  exact ⟨by simp, h 0, h 1⟩
theorem BoxL.old {w w' : World} {g : Nat} {la lh : Int} (h : BoxL w g la lh) (hb : Below w.heap.size w w') : BoxL w' g la lh :=
  ⟨Nat.lt_of_lt_of_le h.lt hb.size, (hb.cell (p := ⟨g, 0, none⟩) h.lt).trans h.c0, (hb.cell (p := ⟨g, 1, none⟩) h.lt).trans h.c1⟩
/-- The cells of a boxed cell. -/
structure BoxE (w : World) (g : Nat) (E : CellE) : Prop where
  lt : g < w.heap.size
  c0 : w.cell? ⟨g, 0, none⟩ = some (.slice E.a E.n E.c)
  c1 : w.cell? ⟨g, 1, none⟩ = some (.bool E.p)
theorem BoxE.new_ (w : World) (t : TypeId) (E : CellE) {g : Nat} (h : w.heap.size = g) : BoxE (w.alloc (.cells #[.slice E.a E.n E.c, .bool E.p] t)) g E := by
  subst h
  have h := box_at w [.slice E.a E.n E.c, .bool E.p] t
  exact ⟨by simp, h 0, h 1⟩
theorem BoxE.old {w w' : World} {g : Nat} {E : CellE} (h : BoxE w g E) (hb : Below w.heap.size w w') : BoxE w' g E :=
  ⟨Nat.lt_of_lt_of_le h.lt hb.size, (hb.cell (p := ⟨g, 0, none⟩) h.lt).trans h.c0, (hb.cell (p := ⟨g, 1, none⟩) h.lt).trans h.c1⟩
/-- A local array's variable. -/
structure BoxV (w : World) (g : Nat) (X : ArrE) : Prop where
  hh : w.heap[g]? = some (.cells #[.slice X.s0.a X.s0.n X.s0.c, .slice X.s1.a X.s1.n X.s1.c, .slice X.s2.a X.s2.n X.s2.c] 41 (0, 0))
section
variable {w w' : World} {g : Nat} {X : ArrE}
theorem BoxV.new (w : World) (X : ArrE) : BoxV (w.alloc (.cells #[.slice X.s0.a X.s0.n X.s0.c, .slice X.s1.a X.s1.n X.s1.c, .slice X.s2.a X.s2.n X.s2.c] 41)) w.heap.size X := ⟨heap_alloc_new w _⟩
theorem BoxV.lt (h : BoxV w g X) : g < w.heap.size := (Array.getElem?_eq_some_iff.1 h.hh).1
theorem BoxV.c0 (h : BoxV w g X) : w.cell? ⟨g, 0, none⟩ = some (.slice X.s0.a X.s0.n X.s0.c) := by rw [cell_of_row w g 0 _ _ (0, 0) h.hh]; simp
theorem BoxV.c1 (h : BoxV w g X) : w.cell? ⟨g, 1, none⟩ = some (.slice X.s1.a X.s1.n X.s1.c) := by rw [cell_of_row w g 1 _ _ (0, 0) h.hh]; simp
theorem BoxV.c2 (h : BoxV w g X) : w.cell? ⟨g, 2, none⟩ = some (.slice X.s2.a X.s2.n X.s2.c) := by rw [cell_of_row w g 2 _ _ (0, 0) h.hh]; simp
theorem BoxV.old (h : BoxV w g X) (hb : Below w.heap.size w w') : BoxV w' g X := ⟨(hb.block g h.lt).trans h.hh⟩
theorem BoxV.keeps {S : Nat → Prop} (h : BoxV w g X) (hk : Keeps S w w') (hs : ¬ S g) : BoxV w' g X := ⟨(hk.block g h.lt hs).trans h.hh⟩
end
theorem OwnA.mono {w : World} {B B' U : Nat} {A : ArrE} (h : OwnA w B U A) (hB : B' ≤ B) : OwnA w B' U A := ⟨h.cells.mono hB, h.age.mono hB, h.hits.mono hB, h.t1, h.t2, h.a12, h.a01, h.a02⟩
theorem small_of {A : ArrE} (h : (A.d.tot : Int) ≤ 1048576) : A.d.small := by
  have h1 : sumC A.d.lens + A.d.age.length + A.d.hits.length ≤ 1048576 := by unfold ArrD.tot at h; omega
  have h2 := sumC_ge A.d.lens
  have h3 : A.d.lens.length = A.d.cells.length := by simp [ArrD.lens]
  refine ⟨by omega, fun i x hx => ?_, by omega, by omega, by omega⟩
  have hm : A.d.lens[i]? = some x.1.length := by unfold ArrD.lens; rw [List.getElem?_map, hx]; rfl
  have := sumC_at hm
  have := sumC_take_le A.d.lens (i + 1)
  omega
section
variable {H : Type} {enc : TypeId × Value → H} {w : World} {base : Nat} {spare : Nat → Bool} {held : Bool}
set_option maxRecDepth 100000 in
theorem open_geo {r : Reach} {b0 : Nat} {v : Value} {d : DataW H} {p : List MemPlace} (hv : Value.okWide Try.prog w r b0 31 v) (h : DataW.Trod enc Try.prog w base spare held 31 v d p) : ∃ G : Geo, v = .agg #[.int .i64 G.a, .int .i64 G.b, .int .i64 G.r, .int .i64 G.c] := by
  obtain ⟨xs, rfl, hl, _⟩ := open_struct_ints Try.underlying31 (by kernel_rfl) (by kernel_rfl) hv h
  match xs, hl with
  | [a, b, r, c], _ => exact ⟨⟨a, b, r, c⟩, rfl⟩
set_option maxRecDepth 100000 in
theorem open_adr {r : Reach} {b0 : Nat} {v : Value} {d : DataW H} {p : List MemPlace} (hv : Value.okWide Try.prog w r b0 59 v) (h : DataW.Trod enc Try.prog w base spare held 59 v d p) : ∃ D : Adr, v = .agg #[.int .i64 D.b, .int .i64 D.r, .int .i64 D.c] := by
  obtain ⟨xs, rfl, hl, _⟩ := open_struct_ints Try.underlying59 (by kernel_rfl) (by kernel_rfl) hv h
  match xs, hl with
  | [b, r, c], _ => exact ⟨⟨b, r, c⟩, rfl⟩
set_option maxRecDepth 100000 in
theorem open_lim {r : Reach} {b0 : Nat} {v : Value} {d : DataW H} {p : List MemPlace} (hv : Value.okWide Try.prog w r b0 50 v) (h : DataW.Trod enc Try.prog w base spare held 50 v d p) : ∃ la lh : Int, v = .agg #[.int .i64 la, .int .i64 lh] := by
  obtain ⟨xs, rfl, hl, _⟩ := open_struct_ints Try.underlying50 (by kernel_rfl) (by kernel_rfl) hv h
  match xs, hl with
  | [a, b], _ => exact ⟨a, b, rfl⟩
/-- What a cell that came in is. -/
structure ArgCell (w : World) (E : CellE) : Prop where
  reads : IntsR w E.a E.xs
  len : E.n = E.xs.length
  cap : E.n ≤ E.c
  max : E.n ≤ maxLen
set_option maxRecDepth 100000 in
theorem open_cel {r : Reach} {b0 : Nat} {v : Value} {d : DataW H} {p : List MemPlace} (hv : Value.okWide Try.prog w r b0 73 v) (h : DataW.Trod enc Try.prog w base spare held 73 v d p) : ∃ E : CellE, v = .agg #[.slice E.a E.n E.c, .bool E.p] ∧ ArgCell w E := by
  obtain ⟨E, he, h1, h2, h3, h4⟩ := open_cell hv h
  exact ⟨E, he, h1, h2, h3, h4⟩
end
theorem below_alloc4 (w : World) (o1 o2 o3 o4 : Obj) : Below w.heap.size w ((((w.alloc o1).alloc o2).alloc o3).alloc o4) := (below_alloc3 w o1 o2 o3).alloc (by simp; omega) _
end Go.Proofs.Ytnfkkkjookfdiaa
