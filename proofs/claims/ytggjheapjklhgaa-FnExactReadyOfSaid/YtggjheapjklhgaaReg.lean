/- Regions that draw their order, whose callees make memory: one walk of the lexical order, in every world in which what was there is unchanged. -/
import Derived.Test.YtggjheapjklhgaaMemA
import Derived.BigQuiet
import Derived.Deep.Quiet
namespace Go.Proofs.Ytggjheapjklhgaa
open Go.RowKit

/-- A world that has all of w, unchanged, and perhaps more. -/
structure Over (w : World) where
  wd : World
  below : Below w.heap.size w wd
instance {w : World} : Nonempty (Over w) := ⟨⟨w, Below.refl _ _⟩⟩
theorem Over.cell {w : World} (t : Over w) : ∀ b o, b < w.heap.size → t.wd.cell? ⟨b, o, none⟩ = w.cell? ⟨b, o, none⟩ := fun b o h => t.below.cell (p := ⟨b, o, none⟩) h
theorem below_alloc (w : World) (o : Obj) : Below w.heap.size w (w.alloc o) := (Below.refl _ _).alloc (Nat.le_refl _) _
/-- The rule that a region's walk uses. -/
theorem over_cell (w : World) : ∀ (t : Over w) (b o : Nat), b < w.heap.size → t.wd.cell? ⟨b, o, none⟩ = w.cell? ⟨b, o, none⟩ := fun t => t.cell
theorem wp_region_over {P : Program} {id : Nat} {Q : Exit → Act → World → Prop} {a : Act} {w : World} {l : List Oper} (hm : P.follows .mixedOrders = true) (hB : Region.lexB .any l.toArray = true)
    (h : wpQuiet P l.toArray (fun w' => ∃ t : Over w, w' = t.wd) (fun a' => ∀ w', Below w.heap.size w w' → Q .normal a' w') l a) : (Code.region id l.toArray true).wp P Q a w := by
  refine wp_region_quiet (C := fun w' => ∃ t : Over w, w' = t.wd) hm hB ⟨⟨_, below_ofDrewN w.heap.size w 1⟩, rfl⟩ ?_
  have e : (fun a' => ∀ w', (∃ t : Over w, w' = t.wd) → Q .normal a' w') = (fun a' => ∀ w', Below w.heap.size w w' → Q .normal a' w') := by
    funext a'
    apply propext
    constructor
    · intro h w' hb; exact h w' ⟨⟨w', hb⟩, rfl⟩
    · rintro h w' ⟨t, rfl⟩; exact h _ t.below
  rw [e]
  simpa using h
theorem calls_over {P : Program} {f : FuncId} {args : Array Value} {w : World} {t : Over w} {v : Value}
    (h : Calls P f args t.wd fun e w' => e = .returned v ∧ Below t.wd.heap.size t.wd w') : Calls P f args t.wd fun e w'' => e = .returned v ∧ ∃ t' : Over w, w'' = t'.wd :=
  h.mono fun _ _ ⟨he, hb⟩ => ⟨he, ⟨_, below_step t.below hb (Nat.le_refl _)⟩, rfl⟩
theorem calls_over_same {P : Program} {f : FuncId} {args : Array Value} {w : World} {t : Over w} {v : Value}
    (h : Calls P f args t.wd fun e w' => e = .returned v ∧ t.wd = w') : Calls P f args t.wd fun e w'' => e = .returned v ∧ ∃ t' : Over w, w'' = t'.wd :=
  h.mono fun _ _ ⟨he, hb⟩ => ⟨he, t, hb.symm⟩
theorem calls_over_drew {P : Program} {f : FuncId} {args : Array Value} {w : World} {t : Over w} {v : Value}
    (h : Calls P f args t.wd fun e w' => e = .returned v ∧ ∃ q, w' = t.wd.drewN q) : Calls P f args t.wd fun e w'' => e = .returned v ∧ ∃ t' : Over w, w'' = t'.wd :=
  calls_over (h.mono fun _ _ ⟨he, q, hb⟩ => ⟨he, by rw [hb]; exact below_ofDrewN _ _ _⟩)
theorem Keeps.set {S : Nat → Prop} {w w' : World} (h : Keeps S w w') (p : Addr) (v : Value) (hp : S p.block) : Keeps S w (w'.setCell p v) :=
  h.trans ⟨rfl, rfl, rfl, by simp, fun k _ hk => heap_setCell_other w' p k v (fun e => hk (by rw [e]; exact hp))⟩
theorem Keeps.alloc {S : Nat → Prop} {w w' : World} (h : Keeps S w w') (o : Obj) : Keeps S w (w'.alloc o) := h.trans (Keeps.of_below (below_alloc _ _))
theorem below_alloc2 (w : World) (o1 o2 : Obj) : Below w.heap.size w ((w.alloc o1).alloc o2) := ((Below.refl _ _).alloc (Nat.le_refl _) _).alloc (by simp) _
theorem below_alloc3 (w : World) (o1 o2 o3 : Obj) : Below w.heap.size w (((w.alloc o1).alloc o2).alloc o3) := (((Below.refl _ _).alloc (Nat.le_refl _) _).alloc (by simp) _).alloc (by simp; omega) _
theorem Keeps.cell {S : Nat → Prop} {w w' : World} (h : Keeps S w w') {b : Nat} (hb : b < w.heap.size) (hs : ¬ S b) (o : Nat) : w'.cell? ⟨b, o, none⟩ = w.cell? ⟨b, o, none⟩ :=
  World.cell?_of_block (w := w) (h.block b hb hs)
/-- A box that was laid before a call, behind it. -/
theorem Keeps.box {S : Nat → Prop} {w w' : World} {l : List Value} {t : TypeId} (h : Keeps S (w.alloc (.cells l.toArray t)) w') (hs : ¬ S w.heap.size) (o : Nat) : w'.cell? ⟨w.heap.size, o, none⟩ = l[o]? := by
  rw [h.cell (by simp) hs o, cell_of_row _ w.heap.size o l.toArray t (0, 0) (heap_alloc_new w _)]; simp
theorem box_at (w : World) (l : List Value) (t : TypeId) (j : Nat) : (w.alloc (.cells l.toArray t)).cell? ⟨w.heap.size, j, none⟩ = l[j]? := by
  rw [cell_of_row _ w.heap.size j l.toArray t (0, 0) (heap_alloc_new w _)]; simp
/-- Two boxes that were laid ahead of a third block, behind what leaves them alone. -/
theorem boxes2 {w w1 : World} {l1 l2 : List Value} {t1 t2 : TypeId} {o : Obj} (h : Below (w.heap.size + 1 + 1) (((w.alloc (.cells l1.toArray t1)).alloc (.cells l2.toArray t2)).alloc o) w1) (j : Nat) :
    w1.cell? ⟨w.heap.size, j, none⟩ = l1[j]? ∧ w1.cell? ⟨w.heap.size + 1, j, none⟩ = l2[j]? := by
  constructor
  · rw [h.cell (p := ⟨w.heap.size, j, none⟩) (by show w.heap.size < _; omega), World.cell?_alloc_lt _ _ _ (by simp; omega), World.cell?_alloc_lt _ _ _ (by simp), box_at]
  · rw [h.cell (p := ⟨w.heap.size + 1, j, none⟩) (by show w.heap.size + 1 < _; omega), World.cell?_alloc_lt _ _ _ (by simp)]
    simp
end Go.Proofs.Ytggjheapjklhgaa
