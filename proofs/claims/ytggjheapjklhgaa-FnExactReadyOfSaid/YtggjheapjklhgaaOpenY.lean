/- Arguments that came in: summaries. -/
import Derived.Test.YtggjheapjklhgaaOpen
import Derived.Test.YtggjheapjklhgaaRdyW
import Derived.Deep.Cut
namespace Go.Proofs.Ytggjheapjklhgaa
open Go.ChangeShapes Go.WideShapes Go.ChangeAt Go.RowKit Go.Joins Go.Deep

theorem RdyE.small_of {X Y : RdyE} (h : X.d = Y.d) (hs : Y.small) : X.small := by
  obtain ⟨h1, h2⟩ := RdyD.parts h
  have e1 : X.last = Y.last := h1
  have e2 : X.acts = Y.acts := h2
  unfold RdyE.small
  rw [e1, e2]
  exact hs
section
variable {H : Type} {enc : TypeId × Value → H} {w : World} {base : Nat} {spare : Nat → Bool} {held : Bool}
/-- What a summary that came in is. -/
structure ArgReady (w : World) (Y : RdyE) : Prop where
  reads : RdyR w Y
  max : Y.s0.n ≤ maxLen ∧ Y.s1.n ≤ maxLen
theorem ArgReady.small {w : World} {Y : RdyE} (h : ArgReady w Y) (hn : (Y.n : Int) ≤ 1048576) : Y.small := by
  have h0 := h.reads.l0
  have h1 := h.reads.l1
  have hn' : ((Y.n : Nat) : Int) = (Y.s0.n : Int) + (Y.s1.n : Int) := by unfold RdyE.n; omega
  exact ⟨by omega, by omega⟩
set_option maxRecDepth 100000 in
theorem open_ready {r : Reach} {b0 : Nat} {v : Value} {d : DataW H} {p : List MemPlace} (hv : Value.okWide Try.prog w r b0 49 v) (h : DataW.Trod enc Try.prog w base spare held 49 v d p) :
    ∃ Y : RdyE, v = .agg #[.slice Y.s0.a Y.s0.n Y.s0.c, .slice Y.s1.a Y.s1.n Y.s1.c] ∧ ArgReady w Y := by
  obtain ⟨cs, rfl, hsz⟩ := okWide_struct Try.underlying49 hv
  obtain ⟨fuel, hf'⟩ := h
  obtain ⟨xs, n, _, _, hlen, hxl, hf⟩ := DataW.trod_struct Try.underlying49 hf'
  rw [show Try.prog.cellsOf 49 = 2 by kernel_rfl] at hlen
  have e3 : (Value.agg cs).cells.toList = cs.toList := rfl
  rw [e3] at hlen hf
  obtain ⟨l, rfl⟩ : ∃ l, cs = List.toArray l := ⟨cs.toList, by simp⟩
  match l, hlen with
  | [v0, v1], _ =>
    have h0 : DataW.trod enc Try.prog w base spare held n 35 (List.take (Try.prog.cellsOf 35) (List.drop 0 [v0, v1])) = xs[0]? := hf 0 _ rfl
    have h1 : DataW.trod enc Try.prog w base spare held n 35 (List.take (Try.prog.cellsOf 35) (List.drop 1 [v0, v1])) = xs[1]? := hf 1 _ rfl
    rw [show Try.prog.cellsOf 35 = 1 by kernel_rfl] at h0 h1
    have hx : xs.length = 2 := hxl
    have e0 : xs[0]? = some (xs[0]'(by omega)) := List.getElem?_eq_getElem _
    have e1 : xs[1]? = some (xs[1]'(by omega)) := List.getElem?_eq_getElem _
    rw [e0] at h0
    rw [e1] at h1
    simp only [List.drop_zero, List.take_succ_cons, List.take_zero, List.drop_succ_cons] at h0 h1
    obtain ⟨a1, n1, c1, zs, rfl, hr1, hl1, hc1, hm1, _⟩ := open_ints_cell Try.underlying35 Try.underlying3 (by kernel_rfl) h0
    obtain ⟨a2, n2, c2, zt, rfl, hr2, hl2, hc2, hm2, _⟩ := open_ints_cell Try.underlying35 Try.underlying3 (by kernel_rfl) h1
    exact ⟨⟨⟨a1, n1, c1⟩, ⟨a2, n2, c2⟩, zs, zt⟩, rfl, ⟨hr1, hr2, hl1, hl2⟩, Nat.le_trans hc1 hm1, Nat.le_trans hc2 hm2⟩
end
end Go.Proofs.Ytggjheapjklhgaa
