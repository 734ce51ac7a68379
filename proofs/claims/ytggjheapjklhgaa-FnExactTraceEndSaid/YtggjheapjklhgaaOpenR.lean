/- Arguments that came in: ranks. -/
import Derived.Test.YtggjheapjklhgaaOpen
import Derived.Test.YtggjheapjklhgaaRankM
import Derived.Deep.Cut
namespace Go.Proofs.Ytggjheapjklhgaa
open Go.ChangeShapes Go.WideShapes Go.ChangeAt Go.RowKit Go.Joins Go.Deep

theorem cellsOf_lbank : Try.prog.cellsOf 152 = 2 := by kernel_rfl
theorem cellsOf_bool : Try.prog.cellsOf 4 = 1 := by kernel_rfl
theorem cellsOf_int : Try.prog.cellsOf 3 = 1 := by kernel_rfl
section
variable {H : Type} {enc : TypeId × Value → H} {w : World} {base : Nat} {spare : Nat → Bool} {held : Bool}
set_option maxRecDepth 100000 in
/-- A bank: a mark and a row. -/
theorem trod_bank {fuel : Nat} {cs : List Value} {y : DataW H × List MemPlace} (h : DataW.trod enc Try.prog w base spare held fuel 152 cs = some y) :
    ∃ e : Bool × Int, cs = [.bool e.1, .int .i64 e.2] := by
  obtain ⟨xs, n, _, _, hlen, hxl, hf⟩ := DataW.trod_struct Try.underlying152 h
  rw [cellsOf_lbank] at hlen
  match cs, hlen with
  | [v0, v1], _ =>
    have h0 : DataW.trod enc Try.prog w base spare held n 4 (List.take (Try.prog.cellsOf 4) (List.drop 0 [v0, v1])) = xs[0]? := hf 0 _ rfl
    have h1 : DataW.trod enc Try.prog w base spare held n 3 (List.take (Try.prog.cellsOf 3) (List.drop 1 [v0, v1])) = xs[1]? := hf 1 _ rfl
    rw [cellsOf_bool] at h0
    rw [cellsOf_int] at h1
    have hx : xs.length = 2 := hxl
    have e0 : xs[0]? = some (xs[0]'(by omega)) := List.getElem?_eq_getElem _
    have e1 : xs[1]? = some (xs[1]'(by omega)) := List.getElem?_eq_getElem _
    rw [e0] at h0
    rw [e1] at h1
    simp only [List.drop_zero, List.take_succ_cons, List.take_zero, List.drop_succ_cons] at h0 h1
    obtain ⟨b, hb, _⟩ := DataW.trod_bool Try.underlying4 h0
    obtain ⟨m, hm, _, _⟩ := DataW.trod_int Try.underlying3 h1
    simp only [List.cons.injEq, and_true] at hb hm
    exact ⟨(b, m), by rw [hb, hm]⟩
set_option maxRecDepth 100000 in
/-- A slice of banks, from its cell. -/
theorem open_banks_cell {fuel : Nat} {v : Value} {x : DataW H × List MemPlace} (h : DataW.trod enc Try.prog w base spare held fuel 71 [v] = some x) :
    ∃ a n c es, v = .slice a n c ∧ RecR encB 2 w a es ∧ n = es.length ∧ n ≤ maxLen := by
  rcases open_slice Try.underlying71 h with ⟨hcs, _⟩ | ⟨a, len, cap, m, n, D, Pl, hcs, _, hl, hm, hmm, _, hi⟩
  · simp only [List.cons.injEq, and_true] at hcs
    exact ⟨none, 0, 0, [], hcs, RecR.nil _, rfl, Nat.zero_le _⟩
  · simp only [List.cons.injEq, and_true] at hcs
    have hlm : len ≤ m := by rw [hmm]; split <;> omega
    have key : ∀ i, i < len → ∃ e : Bool × Int, w.cell? (a.add (i * 2)) = some (.bool e.1) ∧ w.cell? (a.add (i * 2 + 1)) = some (.int .i64 e.2) := by
      intro i hil
      obtain ⟨cs', hc, ht⟩ := hi i (by omega)
      rw [cellsOf_lbank] at hc
      obtain ⟨e, he⟩ := trod_bank ht
      obtain ⟨_, _, hat⟩ := World.cells?_some hc
      have h0 := hat 0 (by omega)
      have h1 := hat 1 (by omega)
      rw [he] at h0 h1
      rw [Go.Deep.add_add] at h0 h1
      exact ⟨e, by simpa using h0, by simpa using h1⟩
    obtain ⟨es, hel, hes⟩ := list_of len key
    refine ⟨some a, len, cap, es, hcs, ?_, hel.symm, Nat.le_trans hl hm⟩
    intro i e he
    obtain ⟨h0, h1⟩ := hes i e he
    have hi0 : i < len := by rw [← hel]; exact (List.getElem?_eq_some_iff.1 he).1
    obtain ⟨e0, h00⟩ : ∃ e0, es[0]? = some e0 := ⟨es[0]'(by omega), List.getElem?_eq_getElem _⟩
    have hz := (hes 0 e0 h00).1
    rw [Nat.zero_mul, add_zero_] at hz
    obtain ⟨b, o, sp⟩ := a
    have hsp : sp = none := spot_none hz
    subst hsp
    rw [add_at] at h0 h1
    refine ⟨b, o, rfl, World.block_lt_of_cell? w _ h0, fun j u hu => ?_⟩
    match j, hu with
    | 0, hu => simp only [encB, List.getElem?_cons_zero, Option.some.injEq] at hu; subst hu; exact h0
    | 1, hu => simp only [encB, List.getElem?_cons_succ, List.getElem?_cons_zero, Option.some.injEq] at hu; subst hu; rw [Nat.add_assoc]; exact h1
    | j + 2, hu => simp [encB] at hu
/-- What a rank that came in is. -/
structure ArgRank (w : World) (R : RankE) : Prop where
  reads : RankR w R
  max : R.n ≤ maxLen
set_option maxRecDepth 100000 in
theorem open_rank {r : Reach} {b0 : Nat} {v : Value} {d : DataW H} {p : List MemPlace} (hv : Value.okWide Try.prog w r b0 73 v) (h : DataW.Trod enc Try.prog w base spare held 73 v d p) :
    ∃ R : RankE, v = .agg #[.slice R.a R.n R.c, .int .i64 R.p] ∧ ArgRank w R := by
  obtain ⟨cs, rfl, hsz⟩ := okWide_struct Try.underlying73 hv
  obtain ⟨fuel, hf'⟩ := h
  obtain ⟨xs, n, _, _, hlen, hxl, hf⟩ := DataW.trod_struct Try.underlying73 hf'
  rw [show Try.prog.cellsOf 73 = 2 by kernel_rfl] at hlen
  have e3 : (Value.agg cs).cells.toList = cs.toList := rfl
  rw [e3] at hlen hf
  obtain ⟨l, rfl⟩ : ∃ l, cs = List.toArray l := ⟨cs.toList, by simp⟩
  match l, hlen with
  | [v0, v1], _ =>
    have h0 : DataW.trod enc Try.prog w base spare held n 71 (List.take (Try.prog.cellsOf 71) (List.drop 0 [v0, v1])) = xs[0]? := hf 0 _ rfl
    have h1 : DataW.trod enc Try.prog w base spare held n 3 (List.take (Try.prog.cellsOf 3) (List.drop 1 [v0, v1])) = xs[1]? := hf 1 _ rfl
    rw [show Try.prog.cellsOf 71 = 1 by kernel_rfl] at h0
    rw [cellsOf_int] at h1
    have hx : xs.length = 2 := hxl
    have e0 : xs[0]? = some (xs[0]'(by omega)) := List.getElem?_eq_getElem _
    have e1 : xs[1]? = some (xs[1]'(by omega)) := List.getElem?_eq_getElem _
    rw [e0] at h0
    rw [e1] at h1
    simp only [List.drop_zero, List.take_succ_cons, List.take_zero, List.drop_succ_cons] at h0 h1
    obtain ⟨a, m, c, es, rfl, hr, hm, hx⟩ := open_banks_cell h0
    obtain ⟨q, hq, _, _⟩ := DataW.trod_int Try.underlying3 h1
    simp only [List.cons.injEq, and_true] at hq
    subst hq
    exact ⟨⟨a, m, c, es, q⟩, rfl, ⟨hr, hm⟩, hx⟩
end
end Go.Proofs.Ytggjheapjklhgaa
