/- A local cell's variable; marking a cell. -/
import Derived.Test.YtnfkkkjookfdiaaStA
namespace Go.Proofs.Ytnfkkkjookfdiaa
open Go.RowKit

/-- A local cell's variable. -/
structure BoxK (w : World) (g : Nat) (a : Option Addr) (n c : Nat) (p : Bool) : Prop where
  hh : w.heap[g]? = some (.cells #[.slice a n c, .bool p] 61 (0, 0))
section
variable {w w' : World} {g n c : Nat} {a : Option Addr} {p : Bool}
theorem BoxK.new (w : World) (a : Option Addr) (n c : Nat) (p : Bool) : BoxK (w.alloc (.cells #[.slice a n c, .bool p] 61)) w.heap.size a n c p := ⟨heap_alloc_new w _⟩
theorem BoxK.lt (h : BoxK w g a n c p) : g < w.heap.size := (Array.getElem?_eq_some_iff.1 h.hh).1
theorem BoxK.c0 (h : BoxK w g a n c p) : w.cell? ⟨g, 0, none⟩ = some (.slice a n c) := by rw [cell_of_row w g 0 _ _ (0, 0) h.hh]; simp
theorem BoxK.c1 (h : BoxK w g a n c p) : w.cell? ⟨g, 1, none⟩ = some (.bool p) := by rw [cell_of_row w g 1 _ _ (0, 0) h.hh]; simp
theorem BoxK.fr (h : BoxK w g a n c p) (j : Nat) : w.frozen? ⟨g, j, none⟩ = false := frozen_of_row w g j _ _ h.hh
theorem BoxK.old (h : BoxK w g a n c p) (hb : Below w.heap.size w w') : BoxK w' g a n c p := ⟨(hb.block g h.lt).trans h.hh⟩
theorem BoxK.keeps {S : Nat → Prop} (h : BoxK w g a n c p) (hk : Keeps S w w') (hs : ¬ S g) : BoxK w' g a n c p := ⟨(hk.block g h.lt hs).trans h.hh⟩
theorem BoxK.stored (h : BoxK w g none 0 0 false) (a : Option Addr) (n c : Nat) (p : Bool) : BoxK ((w.setCell ⟨g, 0, none⟩ (.slice a n c)).setCell ⟨g, 1, none⟩ (.bool p)) g a n c p := by
  refine ⟨?_⟩
  simp [World.setCell, Array.getElem?_modify, h.hh]
theorem stored2_keeps (w : World) (g : Nat) (a b : Value) : Keeps (fun b => b = g) w ((w.setCell ⟨g, 0, none⟩ a).setCell ⟨g, 1, none⟩ b) :=
  ((Keeps.refl (fun b => b = g) w).set ⟨g, 0, none⟩ _ rfl).set ⟨g, 1, none⟩ _ rfl
end
theorem markCell_any (a : Option Addr) (n c B : Nat) (k : Int) (xs : List Int) (p : Bool) (w : World) (hx : OwnS w B a n c xs) (hn : n ≤ 1048576) (hk0 : 0 ≤ k) (hk1 : k ≤ 1073741824) :
    Calls Try.prog 41 #[.agg #[.slice a n c, .bool p], .int .i64 k] w fun e w' => e = .returned (.int .i64 (k + n)) ∧ OwnS w' B a n c (marks k n) ∧ Keeps (blkS a n) w w' := by
  have HX := hid hx
  clear hx
  go_enter Try.func41, Try.ntmps41
  go_wp2_with fail
  refine (markIntS_own _ _ _ B _ _ _ (HX.out.old (below_alloc _ _)) hn hk0 hk1).mono ?_
  rintro e w1 ⟨rfl, M, K⟩
  have HK := hid ((Keeps.of_below (S := blkS a n) (below_alloc w (.cells #[.slice a n c, .bool p] 61))).trans K)
  have HM := hid M
  clear M K
  go_wp2
  go_ret
  exact ⟨rfl, HM.out, HK.out⟩
theorem heldCell_any (a : Option Addr) (n c : Nat) (k : Int) (p : Bool) (w : World) (hx : IntsR w a (marks k n)) (hn : n ≤ 1048576) (hk0 : 0 ≤ k) (hk1 : k ≤ 1073741824) :
    Calls Try.prog 42 #[.agg #[.slice a n c, .bool p], .int .i64 k] w fun e w' => e = .returned (.int .i64 (k + n)) ∧ Below w.heap.size w w' := by
  have HX := hid hx
  clear hx
  have hd : decide (k + (n : Int) < 0) = false := by simp; omega
  go_enter Try.func42, Try.ntmps42
  go_wp2_with fail
  refine (heldIntS_any _ _ _ _ _ (HX.out.old (below_alloc _ _)) hn hk0 hk1).mono ?_
  rintro e w1 ⟨rfl, q, rfl⟩
  go_wp2
  go_ret
  exact ⟨rfl, below_drewN (below_alloc _ _) q⟩
end Go.Proofs.Ytnfkkkjookfdiaa
