/- Arguments that came in: cells, arrays. -/
import Derived.Test.YtnfkkkjookfdiaaOpen
import Derived.Test.YtnfkkkjookfdiaaArr
namespace Go.Proofs.Ytnfkkkjookfdiaa
open Go.ChangeShapes Go.WideShapes Go.ChangeAt Go.RowKit Go.Joins Go.Deep

theorem cellsOf_lc : Try.prog.cellsOf 73 = 2 := by kernel_rfl
theorem cellsOf_ints : Try.prog.cellsOf 22 = 1 := by kernel_rfl
theorem cellsOf_int : Try.prog.cellsOf 3 = 1 := by kernel_rfl
theorem cellsOf_bool : Try.prog.cellsOf 4 = 1 := by kernel_rfl
section
variable {H : Type} {enc : TypeId × Value → H} {w : World} {base : Nat} {spare : Nat → Bool} {held : Bool}
set_option maxRecDepth 100000 in
/-- A cell: a slice of symbols and a mark. -/
theorem trod_cell {fuel : Nat} {cs : List Value} {y : DataW H × List MemPlace} (h : DataW.trod enc Try.prog w base spare held fuel 73 cs = some y) :
    ∃ e : CellE, cs = [.slice e.a e.n e.c, .bool e.p] ∧ IntsR w e.a e.xs ∧ e.n = e.xs.length ∧ e.n ≤ e.c ∧ e.n ≤ maxLen := by
  obtain ⟨xs, n, _, _, hlen, hxl, hf⟩ := DataW.trod_struct Try.underlying73 h
  rw [cellsOf_lc] at hlen
  match cs, hlen with
  | [v0, v1], _ =>
    have h0 : DataW.trod enc Try.prog w base spare held n 22 (List.take (Try.prog.cellsOf 22) (List.drop 0 [v0, v1])) = xs[0]? := hf 0 _ rfl
    have h1 : DataW.trod enc Try.prog w base spare held n 4 (List.take (Try.prog.cellsOf 4) (List.drop 1 [v0, v1])) = xs[1]? := hf 1 _ rfl
    rw [cellsOf_ints] at h0
    rw [cellsOf_bool] at h1
    have hx : xs.length = 2 := hxl
    have e0 : xs[0]? = some (xs[0]'(by omega)) := List.getElem?_eq_getElem _
    have e1 : xs[1]? = some (xs[1]'(by omega)) := List.getElem?_eq_getElem _
    rw [e0] at h0
    rw [e1] at h1
    simp only [List.drop_zero, List.take_succ_cons, List.take_zero, List.drop_succ_cons] at h0 h1
    obtain ⟨a, m, c, zs, rfl, hr, hm, hc, hmx, _⟩ := open_ints_cell Try.underlying22 Try.underlying3 cellsOf_int h0
    obtain ⟨b, hb, _⟩ := DataW.trod_bool Try.underlying4 h1
    simp only [List.cons.injEq, and_true] at hb
    exact ⟨⟨a, m, c, zs, b⟩, by rw [hb], hr, hm, hc, Nat.le_trans hc hmx⟩
set_option maxRecDepth 100000 in
theorem open_cell {r : Reach} {b0 : Nat} {v : Value} {d : DataW H} {p : List MemPlace} (hv : Value.okWide Try.prog w r b0 73 v) (h : DataW.Trod enc Try.prog w base spare held 73 v d p) :
    ∃ e : CellE, v = .agg #[.slice e.a e.n e.c, .bool e.p] ∧ IntsR w e.a e.xs ∧ e.n = e.xs.length ∧ e.n ≤ e.c ∧ e.n ≤ maxLen := by
  obtain ⟨cs, rfl, hsz⟩ := okWide_struct Try.underlying73 hv
  obtain ⟨fuel, hf⟩ := h
  obtain ⟨e, he, r⟩ := trod_cell hf
  refine ⟨e, ?_, r⟩
  congr 1
  apply Array.toList_inj.1
  simpa [Value.cells] using he
set_option maxRecDepth 100000 in
/-- A slice of cells, from its cell. -/
theorem open_cells_cell {fuel : Nat} {v : Value} {x : DataW H × List MemPlace} (h : DataW.trod enc Try.prog w base spare held fuel 32 [v] = some x) :
    ∃ a n c es, v = .slice a n c ∧ CellsR w a n es ∧ n ≤ maxLen ∧ ∀ (i : Nat) (e : CellE), es[i]? = some e → e.n ≤ maxLen := by
  rcases open_slice Try.underlying32 h with ⟨hcs, _⟩ | ⟨a, len, cap, m, n, D, Pl, hcs, _, hl, hm, hmm, _, hi⟩
  · simp only [List.cons.injEq, and_true] at hcs
    exact ⟨none, 0, 0, [], hcs, ⟨RecR.nil _, rfl, fun i e he => by simp at he, fun i e he => by simp at he⟩, Nat.zero_le _, fun i e he => by simp at he⟩
  · simp only [List.cons.injEq, and_true] at hcs
    have hlm : len ≤ m := by rw [hmm]; split <;> omega
    have key : ∀ i, i < len → ∃ e : CellE, w.cell? (a.add (i * 2)) = some (.slice e.a e.n e.c) ∧ w.cell? (a.add (i * 2 + 1)) = some (.bool e.p) ∧ IntsR w e.a e.xs ∧ e.n = e.xs.length ∧ e.n ≤ e.c ∧ e.n ≤ maxLen := by
      intro i hil
      obtain ⟨cs', hc, ht⟩ := hi i (by omega)
      rw [cellsOf_lc] at hc
      obtain ⟨e, he, r⟩ := trod_cell ht
      obtain ⟨_, _, hat⟩ := World.cells?_some hc
      have h0 := hat 0 (by omega)
      have h1 := hat 1 (by omega)
      rw [he] at h0 h1
      rw [Go.Deep.add_add] at h0 h1
      exact ⟨e, by simpa using h0, by simpa using h1, r⟩
    obtain ⟨es, hel, hes⟩ := list_of len key
    refine ⟨some a, len, cap, es, hcs, ⟨?_, hel.symm, fun i e he => (hes i e he).2.2.1, fun i e he => ⟨(hes i e he).2.2.2.1, (hes i e he).2.2.2.2.1⟩⟩, Nat.le_trans hl hm, fun i e he => (hes i e he).2.2.2.2.2⟩
    intro i e he
    obtain ⟨h0, h1, _⟩ := hes i e he
    have hi0 : i < len := by rw [← hel]; exact (List.getElem?_eq_some_iff.1 he).1
    obtain ⟨e0, h00⟩ : ∃ e0, es[0]? = some e0 := ⟨es[0]'(by omega), List.getElem?_eq_getElem _⟩
    have hz := (hes 0 e0 h00).1
    rw [Nat.zero_mul, add_zero_] at hz
    obtain ⟨b, o, sp⟩ := a
    have hsp : sp = none := spot_none hz
    subst hsp
    rw [add_at] at h0 h1
    refine ⟨b, o, rfl, World.block_lt_of_cell? w _ h0, fun j u hu => ?_⟩
    match j, hu with
    | 0, hu => simp only [encC, List.getElem?_cons_zero, Option.some.injEq] at hu; subst hu; exact h0
    | 1, hu => simp only [encC, List.getElem?_cons_succ, List.getElem?_cons_zero, Option.some.injEq] at hu; subst hu; rw [Nat.add_assoc]; exact h1
    | j + 2, hu => simp [encC] at hu
/-- What an array that came in is. -/
structure ArgArr (w : World) (A : ArrE) : Prop where
  reads : ArrR w A
  n0 : A.s0.n ≤ maxLen
  n1 : A.s1.n ≤ maxLen
  n2 : A.s2.n ≤ maxLen
  ns : ∀ (i : Nat) (e : CellE), A.es[i]? = some e → e.n ≤ maxLen
set_option maxRecDepth 100000 in
theorem open_array {r : Reach} {b0 : Nat} {v : Value} {d : DataW H} {p : List MemPlace} (hv : Value.okWide Try.prog w r b0 34 v) (h : DataW.Trod enc Try.prog w base spare held 34 v d p) :
    ∃ A : ArrE, v = .agg #[.slice A.s0.a A.s0.n A.s0.c, .slice A.s1.a A.s1.n A.s1.c, .slice A.s2.a A.s2.n A.s2.c] ∧ ArgArr w A := by
  obtain ⟨v0, v1, v2, y0, y1, y2, n, rfl, _, _, h0, h1, h2⟩ := open_agg3 Try.underlying34 (by kernel_rfl) (by kernel_rfl) hv h
  obtain ⟨a, n0, c, es, rfl, hr, hn, hns⟩ := open_cells_cell h0
  obtain ⟨a1, n1, c1, zs, rfl, hr1, hl1, hc1, hm1, _⟩ := open_ints_cell Try.underlying22 Try.underlying3 cellsOf_int h1
  obtain ⟨a2, n2, c2, zt, rfl, hr2, hl2, hc2, hm2, _⟩ := open_ints_cell Try.underlying22 Try.underlying3 cellsOf_int h2
  exact ⟨⟨⟨a, n0, c⟩, ⟨a1, n1, c1⟩, ⟨a2, n2, c2⟩, es, zs, zt⟩, rfl, ⟨hr, hr1, hr2, hl1, hl2⟩, hn, Nat.le_trans hc1 hm1, Nat.le_trans hc2 hm2, hns⟩
end
end Go.Proofs.Ytnfkkkjookfdiaa
