/- Arguments that came in: events. -/
import Derived.Test.YtggjheapjklhgaaOpen
import Derived.Test.YtggjheapjklhgaaEvtF
import Derived.Deep.Cut
namespace Go.Proofs.Ytggjheapjklhgaa
open Go.ChangeShapes Go.WideShapes Go.ChangeAt Go.RowKit Go.Joins Go.Deep

theorem cellsOf_lev : Try.prog.cellsOf 52 = 5 := by kernel_rfl
section
variable {H : Type} {enc : TypeId × Value → H} {w : World} {base : Nat} {spare : Nat → Bool} {held : Bool}
set_option maxRecDepth 100000 in
/-- An event: a time and a command. -/
theorem trod_event {fuel : Nat} {cs : List Value} {y : DataW H × List MemPlace} (h : DataW.trod enc Try.prog w base spare held fuel 52 cs = some y) :
    ∃ e : Ev, cs = encE e := by
  obtain ⟨xs, n, _, _, hlen, hxl, hf⟩ := DataW.trod_struct Try.underlying52 h
  rw [cellsOf_lev] at hlen
  match cs, hlen with
  | [v0, v1, v2, v3, v4], _ =>
    have h0 : DataW.trod enc Try.prog w base spare held n 3 (List.take (Try.prog.cellsOf 3) (List.drop 0 [v0, v1, v2, v3, v4])) = xs[0]? := hf 0 _ rfl
    have h1 : DataW.trod enc Try.prog w base spare held n 50 (List.take (Try.prog.cellsOf 50) (List.drop 1 [v0, v1, v2, v3, v4])) = xs[1]? := hf 1 _ rfl
    rw [show Try.prog.cellsOf 3 = 1 by kernel_rfl] at h0
    rw [show Try.prog.cellsOf 50 = 4 by kernel_rfl] at h1
    have hx : xs.length = 2 := hxl
    have e0 : xs[0]? = some (xs[0]'(by omega)) := List.getElem?_eq_getElem _
    have e1 : xs[1]? = some (xs[1]'(by omega)) := List.getElem?_eq_getElem _
    rw [e0] at h0
    rw [e1] at h1
    simp only [List.drop_zero, List.take_succ_cons, List.take_zero, List.drop_succ_cons] at h0 h1
    obtain ⟨m, hm, _, _⟩ := DataW.trod_int Try.underlying3 h0
    obtain ⟨ys, hy, hl, _⟩ := trod_struct_ints Try.underlying50 (by kernel_rfl) (by kernel_rfl) h1
    match ys, hl with
    | [a, b, r, c], _ =>
      simp only [List.cons.injEq, and_true, List.map_cons, List.map_nil] at hm hy
      exact ⟨⟨m, ⟨a, b, r, c⟩⟩, by rw [hm, hy.1, hy.2.1, hy.2.2.1, hy.2.2.2]; rfl⟩
set_option maxRecDepth 100000 in
/-- A slice of events, from its cell. -/
theorem open_events_cell {fuel : Nat} {v : Value} {x : DataW H × List MemPlace} (h : DataW.trod enc Try.prog w base spare held fuel 78 [v] = some x) :
    ∃ a n c es, v = .slice a n c ∧ RecR encE 5 w a es ∧ n = es.length ∧ n ≤ maxLen := by
  rcases open_slice Try.underlying78 h with ⟨hcs, _⟩ | ⟨a, len, cap, m, n, D, Pl, hcs, _, hl, hm, hmm, _, hi⟩
  · simp only [List.cons.injEq, and_true] at hcs
    exact ⟨none, 0, 0, [], hcs, RecR.nil _, rfl, Nat.zero_le _⟩
  · simp only [List.cons.injEq, and_true] at hcs
    have hlm : len ≤ m := by rw [hmm]; split <;> omega
    have key : ∀ i, i < len → ∃ e : Ev, ∀ j v, (encE e)[j]? = some v → w.cell? (a.add (i * 5 + j)) = some v := by
      intro i hil
      obtain ⟨cs', hc, ht⟩ := hi i (by omega)
      rw [cellsOf_lev] at hc
      obtain ⟨e, he⟩ := trod_event ht
      obtain ⟨_, _, hat⟩ := World.cells?_some hc
      refine ⟨e, fun j v hv => ?_⟩
      have hj : j < 5 := by
        have := (List.getElem?_eq_some_iff.1 hv).1
        rwa [encE_len] at this
      have h0 := hat j hj
      rw [he, hv, Go.Deep.add_add] at h0
      exact h0
    obtain ⟨es, hel, hes⟩ := list_of len key
    refine ⟨some a, len, cap, es, hcs, ?_, hel.symm, Nat.le_trans hl hm⟩
    intro i e he
    have he5 := hes i e he
    have hi0 : i < len := by rw [← hel]; exact (List.getElem?_eq_some_iff.1 he).1
    obtain ⟨e0, h00⟩ : ∃ e0, es[0]? = some e0 := ⟨es[0]'(by omega), List.getElem?_eq_getElem _⟩
    have hz := hes 0 e0 h00 0 _ rfl
    rw [Nat.zero_mul, Nat.add_zero, add_zero_] at hz
    obtain ⟨b, o, sp⟩ := a
    have hsp : sp = none := spot_none hz
    subst hsp
    have h0 := he5 0 _ rfl
    rw [add_at] at h0
    refine ⟨b, o, rfl, World.block_lt_of_cell? w _ h0, fun j u hu => ?_⟩
    have := he5 j u hu
    rw [add_at] at this
    rw [Nat.add_assoc]
    exact this
/-- What a list of events that came in is. -/
structure ArgEvs (w : World) (E : EvsE) : Prop where
  reads : EvsRd w E
  max : E.n ≤ maxLen
set_option maxRecDepth 100000 in
theorem open_events {r : Reach} {b0 : Nat} {v : Value} {d : DataW H} {p : List MemPlace} (hv : Value.okWide Try.prog w r b0 78 v) (h : DataW.Trod enc Try.prog w base spare held 78 v d p) :
    ∃ E : EvsE, v = .slice E.a E.n E.c ∧ ArgEvs w E := by
  obtain ⟨a, l, c, rfl⟩ := okWide_slice Try.underlying78 hv
  obtain ⟨fuel, hf⟩ := h
  have hf' : DataW.trod enc Try.prog w base spare held fuel 78 [.slice a l c] = some (d, p) := hf
  obtain ⟨a', n', c', es, e, hr, hn, hm⟩ := open_events_cell hf'
  simp only [Value.slice.injEq] at e
  obtain ⟨rfl, rfl, rfl⟩ := e
  exact ⟨⟨a, l, c, es⟩, rfl, ⟨hr, hn⟩, hm⟩
set_option maxRecDepth 100000 in
theorem open_event {r : Reach} {b0 : Nat} {v : Value} {d : DataW H} {p : List MemPlace} (hv : Value.okWide Try.prog w r b0 52 v) (h : DataW.Trod enc Try.prog w base spare held 52 v d p) :
    ∃ V : Ev, v = .agg #[.int .i64 V.t, .int .i64 V.c.k, .int .i64 V.c.b, .int .i64 V.c.r, .int .i64 V.c.c] := by
  obtain ⟨cs, rfl, hsz⟩ := okWide_struct Try.underlying52 hv
  obtain ⟨fuel, hf⟩ := h
  obtain ⟨e, he⟩ := trod_event hf
  refine ⟨e, ?_⟩
  congr 1
  apply Array.toList_inj.1
  simpa [Value.cells, encE] using he
end
end Go.Proofs.Ytggjheapjklhgaa
