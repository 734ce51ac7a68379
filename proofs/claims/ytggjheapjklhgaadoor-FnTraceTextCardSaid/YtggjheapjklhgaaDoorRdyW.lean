/- Summaries in memory; the laws' helpers on them: copying, comparing, marking. -/
import Derived.Test.YtggjheapjklhgaaDoorRankW
namespace Go.Proofs.YtggjheapjklhgaaDoor
open Go.RowKit

structure SlH where
  a : Option Addr
  n : Nat
  c : Nat
/-- A summary: the last times, the last activations. -/
structure RdyE where
  s0 : SlH
  s1 : SlH
  last : List Int
  acts : List Int
structure RdyD where
  last : List Int
  acts : List Int
def RdyE.d (Y : RdyE) : RdyD := ⟨Y.last, Y.acts⟩
def RdyE.n (Y : RdyE) : Nat := Y.s0.n + Y.s1.n
def RdyE.small (Y : RdyE) : Prop := Y.last.length ≤ 1048576 ∧ Y.acts.length ≤ 1048576
structure RdyR (w : World) (Y : RdyE) : Prop where
  last : IntsR w Y.s0.a Y.last
  acts : IntsR w Y.s1.a Y.acts
  l0 : Y.s0.n = Y.last.length
  l1 : Y.s1.n = Y.acts.length
theorem RdyR.old {w w' : World} {Y : RdyE} (h : RdyR w Y) (hb : Below w.heap.size w w') : RdyR w' Y := ⟨h.last.old hb, h.acts.old hb, h.l0, h.l1⟩
structure OwnY (w : World) (B U : Nat) (Y : RdyE) : Prop where
  le : U ≤ w.heap.size
  last : OwnS w B Y.s0.a Y.s0.n Y.s0.c Y.last
  acts : OwnS w B Y.s1.a Y.s1.n Y.s1.c Y.acts
  t0 : ∀ b, blkS Y.s0.a Y.s0.n b → b < U
  t1 : ∀ b, blkS Y.s1.a Y.s1.n b → b < U
  apart : ∀ b, blkS Y.s0.a Y.s0.n b → ¬ blkS Y.s1.a Y.s1.n b
theorem OwnY.reads {w : World} {B U : Nat} {Y : RdyE} (h : OwnY w B U Y) : RdyR w Y := ⟨h.last.reads, h.acts.reads, h.last.length, h.acts.length⟩
theorem OwnY.keeps {S : Nat → Prop} {w w' : World} {B U : Nat} {Y : RdyE} (h : OwnY w B U Y) (hk : Keeps S w w') (hs : ∀ b, B ≤ b → b < U → ¬ S b) : OwnY w' B U Y :=
  ⟨Nat.le_trans h.le hk.size, h.last.keeps hk (fun b hb => hs b (h.last.lt hb).1 (h.t0 b hb)), h.acts.keeps hk (fun b hb => hs b (h.acts.lt hb).1 (h.t1 b hb)), h.t0, h.t1, h.apart⟩
theorem OwnY.old {w w' : World} {B U : Nat} {Y : RdyE} (h : OwnY w B U Y) (hb : Below w.heap.size w w') : OwnY w' B U Y := h.keeps (S := fun _ => False) (Keeps.of_below hb) (fun _ _ _ x => x)
theorem OwnY.mono {w : World} {B B' U : Nat} {Y : RdyE} (h : OwnY w B U Y) (hB : B' ≤ B) : OwnY w B' U Y := ⟨h.le, h.last.mono hB, h.acts.mono hB, h.t0, h.t1, h.apart⟩
theorem OwnY.up {w : World} {B U V : Nat} {Y : RdyE} (h : OwnY w B U Y) (hUV : U ≤ V) (hV : V ≤ w.heap.size) : OwnY w B V Y := ⟨hV, h.last, h.acts, fun b hb => Nat.lt_of_lt_of_le (h.t0 b hb) hUV, fun b hb => Nat.lt_of_lt_of_le (h.t1 b hb) hUV, h.apart⟩
def blkY (Y : RdyE) (b : Nat) : Prop := blkS Y.s0.a Y.s0.n b ∨ blkS Y.s1.a Y.s1.n b
theorem OwnY.in_ {w : World} {B U : Nat} {Y : RdyE} (h : OwnY w B U Y) {b : Nat} (hb : blkY Y b) : B ≤ b ∧ b < U := by
  rcases hb with hb | hb
  · exact ⟨(h.last.lt hb).1, h.t0 b hb⟩
  · exact ⟨(h.acts.lt hb).1, h.t1 b hb⟩
/-- The cells of a boxed summary. -/
structure BoxY (w : World) (g : Nat) (Y : RdyE) : Prop where
  lt : g < w.heap.size
  c0 : w.cell? ⟨g, 0, none⟩ = some (.slice Y.s0.a Y.s0.n Y.s0.c)
  c1 : w.cell? ⟨g, 1, none⟩ = some (.slice Y.s1.a Y.s1.n Y.s1.c)
theorem BoxY.new_ (w : World) (t : TypeId) (Y : RdyE) {g : Nat} (h : w.heap.size = g) : BoxY (w.alloc (.cells #[.slice Y.s0.a Y.s0.n Y.s0.c, .slice Y.s1.a Y.s1.n Y.s1.c] t)) g Y := by
  subst h
  have h := box_at w [.slice Y.s0.a Y.s0.n Y.s0.c, .slice Y.s1.a Y.s1.n Y.s1.c] t
  exact ⟨by simp, h 0, h 1⟩
theorem BoxY.below {w w' : World} {B g : Nat} {Y : RdyE} (h : BoxY w g Y) (hb : Below B w w') (hg : g < B) : BoxY w' g Y :=
  ⟨Nat.lt_of_lt_of_le h.lt hb.size, (hb.cell (p := ⟨g, 0, none⟩) hg).trans h.c0, (hb.cell (p := ⟨g, 1, none⟩) hg).trans h.c1⟩
theorem BoxY.old {w w' : World} {g : Nat} {Y : RdyE} (h : BoxY w g Y) (hb : Below w.heap.size w w') : BoxY w' g Y := h.below hb h.lt
theorem BoxY.keeps {S : Nat → Prop} {w w' : World} {g : Nat} {Y : RdyE} (h : BoxY w g Y) (hk : Keeps S w w') (hs : ¬ S g) : BoxY w' g Y :=
  ⟨Nat.lt_of_lt_of_le h.lt hk.size, (hk.cell h.lt hs 0).trans h.c0, (hk.cell h.lt hs 1).trans h.c1⟩

theorem RdyD.parts {x y : RdyD} (h : x = y) : x.last = y.last ∧ x.acts = y.acts := by subst h; exact ⟨rfl, rfl⟩
end Go.Proofs.YtggjheapjklhgaaDoor
