/- Arguments that came in: structs of ints, slices, what they read as. -/
import Derived.Test.YtggjheapjklhgaaDoorMem
import Derived.Test.YtggjheapjklhgaaDoorLists
import Derived.Deep.Slices
import Derived.Deep.Fields
import Derived.Lib.SmallJoins
import Derived.OpenShut
import Derived.Test.YtggjheapjklhgaaDoorTimP
import Derived.Test.YtggjheapjklhgaaDoorRankM
import Derived.Deep.Cut
import Derived.Test.YtggjheapjklhgaaDoorEvtF
import Derived.Test.YtggjheapjklhgaaDoorRdyW
namespace Go.Proofs.YtggjheapjklhgaaDoor
open Go.ChangeShapes Go.WideShapes Go.ChangeAt Go.RowKit Go.Joins

theorem spot_none {w : World} {x : Addr} {v : Value} (h : w.cell? x = some v) : x.spot = none := by
  unfold World.cell? at h
  split at h
  · cases e : x.spot with
    | none => rfl
    | some q => simp [e] at h
  · cases h
theorem add_zero_ (x : Addr) : x.add 0 = x := by unfold Addr.add; simp
theorem add_at (b o i : Nat) : (⟨b, o, none⟩ : Addr).add i = ⟨b, o + i, none⟩ := by unfold Addr.add; split <;> simp_all
/-- Out of 'for each there is one' a list. -/
theorem list_of {α : Type} {P : Nat → α → Prop} : ∀ (n : Nat), (∀ i, i < n → ∃ e, P i e) → ∃ es : List α, es.length = n ∧ ∀ i e, es[i]? = some e → P i e
  | 0, _ => ⟨[], rfl, fun i e h => by simp at h⟩
  | n + 1, h => by
    obtain ⟨es, hl, he⟩ := list_of n fun i hi => h i (by omega)
    obtain ⟨e, hn⟩ := h n (by omega)
    refine ⟨es ++ [e], by simp [hl], fun i x hx => ?_⟩
    rcases Nat.lt_or_ge i n with hi | hi
    · rw [List.getElem?_append_left (by omega)] at hx; exact he i x hx
    · have hin : i = n := by
        rcases Nat.eq_or_lt_of_le hi with h1 | h1
        · exact h1.symm
        · rw [List.getElem?_eq_none (by simp [hl]; omega)] at hx; cases hx
      subst hin
      rw [List.getElem?_append_right (by omega), hl, Nat.sub_self] at hx
      simp at hx; subst hx; exact hn
section
variable {H : Type} {enc : TypeId × Value → H} {P : Program} {w : World} {base : Nat} {spare : Nat → Bool} {held : Bool}
/-- The fields are ints, a cell each. -/
def intFields (P : Program) (fs : Array Field) : Bool := (List.range fs.size).all fun i => match fs[i]? with
  | some f => f.offset == i && P.cellsOf f.type == 1 && (match P.underlying f.type with | some (.int .i64) => true | _ => false)
  | none => false
/-- A struct of ints: its cells are ints. -/
theorem trod_struct_ints {t : TypeId} {fs : Array Field} {fuel : Nat} {cs : List Value} {y : DataW H × List MemPlace} (hs : P.underlying t = some (.struct fs)) (hi : intFields P fs = true) (hC : P.cellsOf t = fs.size)
    (h : DataW.trod enc P w base spare held fuel t cs = some y) : ∃ xs : List Int, cs = xs.map (Value.int .i64) ∧ xs.length = fs.size ∧ ∀ x ∈ xs, (Lit.int .i64 x).wf = true := by
  obtain ⟨xs, n, _, _, hlen, hxl, hf⟩ := DataW.trod_struct hs h
  have key : ∀ i, i < fs.size → ∃ m : Int, cs[i]? = some (.int .i64 m) ∧ (Lit.int .i64 m).wf = true := by
    intro i hi'
    unfold intFields at hi
    have h1 := List.all_eq_true.1 hi i (List.mem_range.2 hi')
    have hfi : fs[i]? = some fs[i] := Array.getElem?_eq_getElem hi'
    rw [hfi] at h1
    simp only [Bool.and_eq_true, beq_iff_eq] at h1
    obtain ⟨⟨ho, hk⟩, hu⟩ := h1
    have h2 := hf i fs[i] hfi
    have hx : xs[i]? = some (xs[i]'(by omega)) := List.getElem?_eq_getElem _
    rw [ho, hk, hx] at h2
    have hci : i < cs.length := by omega
    have e1 : (cs.drop i).take 1 = [cs[i]] := by rw [List.drop_eq_getElem_cons hci]; rfl
    rw [e1] at h2
    cases hue : P.underlying fs[i].type with
    | none => rw [hue] at hu; cases hu
    | some d =>
      rw [hue] at hu
      have hd : d = .int .i64 := by
        split at hu
        · rename_i heq; simpa using heq
        · cases hu
      subst hd
      obtain ⟨m, hm, _, hw⟩ := DataW.trod_int hue h2
      simp only [List.cons.injEq, and_true] at hm
      exact ⟨m, by rw [List.getElem?_eq_getElem hci, hm], hw⟩
  obtain ⟨ys, hy, hp⟩ := list_of (P := fun i m => cs[i]? = some (.int .i64 m) ∧ (Lit.int .i64 m).wf = true) fs.size key
  refine ⟨ys, ?_, hy, fun x hx => ?_⟩
  · apply List.ext_getElem?
    intro i
    rw [List.getElem?_map]
    by_cases hi' : i < fs.size
    · have hyi : ys[i]? = some (ys[i]'(by omega)) := List.getElem?_eq_getElem _
      rw [hyi]; exact (hp i _ hyi).1
    · rw [List.getElem?_eq_none (by omega), List.getElem?_eq_none (by omega)]; rfl
  · obtain ⟨i, hi', rfl⟩ := List.mem_iff_getElem.1 hx
    exact (hp i _ (List.getElem?_eq_getElem hi')).2
theorem open_struct_ints {r : Reach} {b0 : Nat} {t : TypeId} {fs : Array Field} {v : Value} {d : DataW H} {p : List MemPlace} (hs : P.underlying t = some (.struct fs)) (hi : intFields P fs = true) (hC : P.cellsOf t = fs.size)
    (hv : Value.okWide P w r b0 t v) (h : DataW.Trod enc P w base spare held t v d p) : ∃ xs : List Int, v = .agg (xs.map (Value.int .i64)).toArray ∧ xs.length = fs.size ∧ ∀ x ∈ xs, (Lit.int .i64 x).wf = true := by
  obtain ⟨cs, rfl, hsz⟩ := okWide_struct hs hv
  obtain ⟨fuel, hf⟩ := h
  obtain ⟨xs, hx, hl, hw⟩ := trod_struct_ints hs hi hC hf
  refine ⟨xs, ?_, hl, hw⟩
  congr 1
  apply Array.toList_inj.1
  simpa [Value.cells] using hx
/-- A slice of ints, from its cell. -/
theorem open_ints_cell {t e : TypeId} {fuel : Nat} {v : Value} {x : DataW H × List MemPlace} (ht : P.underlying t = some (.slice e)) (he : P.underlying e = some (.int .i64)) (hc : P.cellsOf e = 1)
    (h : DataW.trod enc P w base spare held fuel t [v] = some x) : ∃ a n c zs, v = .slice a n c ∧ IntsR w a zs ∧ n = zs.length ∧ n ≤ c ∧ c ≤ maxLen ∧ ∀ x ∈ zs, (Lit.int .i64 x).wf = true := by
  rcases open_ints ht he hc h with ⟨hcs, _⟩ | ⟨a, len, cap, zs, hcs, _, hl, hm, hz, _, hcell, hwz⟩
  · simp only [List.cons.injEq, and_true] at hcs
    exact ⟨none, 0, 0, [], hcs, IntsR.nil _ _, rfl, Nat.le_refl _, by unfold maxLen; omega, fun x hx => by cases hx⟩
  · simp only [List.cons.injEq, and_true] at hcs
    have hzl : len ≤ zs.length := by rw [hz]; split <;> omega
    refine ⟨some a, len, cap, zs.take len, hcs, ?_, by simp; omega, hl, hm, fun x hx => hwz x (List.mem_of_mem_take hx)⟩
    intro i y hy
    have hi : i < len ∧ zs[i]? = some y := by
      rw [List.getElem?_take] at hy
      split at hy
      · exact ⟨by assumption, hy⟩
      · cases hy
    have h0 := hcell 0 (by omega)
    rw [add_zero_] at h0
    obtain ⟨b, o, sp⟩ := a
    have hsp : sp = none := spot_none h0
    subst hsp
    have h1 := hcell i (by omega)
    rw [add_at, List.getD_eq_getElem?_getD, hi.2] at h1
    exact ⟨b, o, rfl, World.block_lt_of_cell? w _ h1, h1⟩
end
end Go.Proofs.YtggjheapjklhgaaDoor

/- Arguments that came in: structs of ints. -/
namespace Go.Proofs.YtggjheapjklhgaaDoor
open Go.ChangeShapes Go.WideShapes Go.ChangeAt Go.RowKit Go.Joins Go.Deep
section
variable {H : Type} {enc : TypeId × Value → H} {w : World} {base : Nat} {spare : Nat → Bool} {held : Bool}
set_option maxRecDepth 100000 in
theorem open_cmd {r : Reach} {b0 : Nat} {v : Value} {d : DataW H} {p : List MemPlace} (hv : Value.okWide Tryd.prog w r b0 46 v) (h : DataW.Trod enc Tryd.prog w base spare held 46 v d p) : ∃ C : Cmd, v = .agg #[.int .i64 C.k, .int .i64 C.b, .int .i64 C.r, .int .i64 C.c] := by
  obtain ⟨xs, rfl, hl, _⟩ := open_struct_ints Tryd.underlying46 (by kernel_rfl) (by kernel_rfl) hv h
  match xs, hl with
  | [a, b, r, c], _ => exact ⟨⟨a, b, r, c⟩, rfl⟩
end
end Go.Proofs.YtggjheapjklhgaaDoor

/- Arguments that came in: ranks. -/
namespace Go.Proofs.YtggjheapjklhgaaDoor
open Go.ChangeShapes Go.WideShapes Go.ChangeAt Go.RowKit Go.Joins Go.Deep

theorem cellsOf_bool : Tryd.prog.cellsOf 4 = 1 := by kernel_rfl
theorem cellsOf_int : Tryd.prog.cellsOf 3 = 1 := by kernel_rfl
section
variable {H : Type} {enc : TypeId × Value → H} {w : World} {base : Nat} {spare : Nat → Bool} {held : Bool}
/-- What a rank that came in is. -/
structure ArgRank (w : World) (R : RankE) : Prop where
  reads : RankR w R
  max : R.n ≤ maxLen
end
end Go.Proofs.YtggjheapjklhgaaDoor

/- Arguments that came in: events. -/
namespace Go.Proofs.YtggjheapjklhgaaDoor
open Go.ChangeShapes Go.WideShapes Go.ChangeAt Go.RowKit Go.Joins Go.Deep

theorem cellsOf_lev : Tryd.prog.cellsOf 48 = 5 := by kernel_rfl
section
variable {H : Type} {enc : TypeId × Value → H} {w : World} {base : Nat} {spare : Nat → Bool} {held : Bool}
set_option maxRecDepth 100000 in
/-- An event: a time and a command. -/
theorem trod_event {fuel : Nat} {cs : List Value} {y : DataW H × List MemPlace} (h : DataW.trod enc Tryd.prog w base spare held fuel 48 cs = some y) :
    ∃ e : Ev, cs = encE e := by
  obtain ⟨xs, n, _, _, hlen, hxl, hf⟩ := DataW.trod_struct Tryd.underlying48 h
  rw [cellsOf_lev] at hlen
  match cs, hlen with
  | [v0, v1, v2, v3, v4], _ =>
    have h0 : DataW.trod enc Tryd.prog w base spare held n 3 (List.take (Tryd.prog.cellsOf 3) (List.drop 0 [v0, v1, v2, v3, v4])) = xs[0]? := hf 0 _ rfl
    have h1 : DataW.trod enc Tryd.prog w base spare held n 46 (List.take (Tryd.prog.cellsOf 46) (List.drop 1 [v0, v1, v2, v3, v4])) = xs[1]? := hf 1 _ rfl
    rw [show Tryd.prog.cellsOf 3 = 1 by kernel_rfl] at h0
    rw [show Tryd.prog.cellsOf 46 = 4 by kernel_rfl] at h1
    have hx : xs.length = 2 := hxl
    have e0 : xs[0]? = some (xs[0]'(by omega)) := List.getElem?_eq_getElem _
    have e1 : xs[1]? = some (xs[1]'(by omega)) := List.getElem?_eq_getElem _
    rw [e0] at h0
    rw [e1] at h1
    simp only [List.drop_zero, List.take_succ_cons, List.take_zero, List.drop_succ_cons] at h0 h1
    obtain ⟨m, hm, _, _⟩ := DataW.trod_int Tryd.underlying3 h0
    obtain ⟨ys, hy, hl, _⟩ := trod_struct_ints Tryd.underlying46 (by kernel_rfl) (by kernel_rfl) h1
    match ys, hl with
    | [a, b, r, c], _ =>
      simp only [List.cons.injEq, and_true, List.map_cons, List.map_nil] at hm hy
      exact ⟨⟨m, ⟨a, b, r, c⟩⟩, by rw [hm, hy.1, hy.2.1, hy.2.2.1, hy.2.2.2]; rfl⟩
set_option maxRecDepth 100000 in
/-- A slice of events, from its cell. -/
theorem open_events_cell {fuel : Nat} {v : Value} {x : DataW H × List MemPlace} (h : DataW.trod enc Tryd.prog w base spare held fuel 22 [v] = some x) :
    ∃ a n c es, v = .slice a n c ∧ RecR encE 5 w a es ∧ n = es.length ∧ n ≤ maxLen := by
  rcases open_slice Tryd.underlying22 h with ⟨hcs, _⟩ | ⟨a, len, cap, m, n, D, Pl, hcs, _, hl, hm, hmm, _, hi⟩
  · simp only [List.cons.injEq, and_true] at hcs
    exact ⟨none, 0, 0, [], hcs, RecR.nil _, rfl, Nat.zero_le _⟩
  · simp only [List.cons.injEq, and_true] at hcs
    have hlm : len ≤ m := by rw [hmm]; split <;> omega
    have key : ∀ i, i < len → ∃ e : Ev, ∀ j v, (encE e)[j]? = some v → w.cell? (a.add (i * 5 + j)) = some v := by
      intro i hil
      obtain ⟨cs', hc, ht⟩ := hi i (by omega)
      rw [cellsOf_lev] at hc
      obtain ⟨e, he⟩ := trod_event ht
      obtain ⟨_, _, hat⟩ := World.cells?_some hc
      refine ⟨e, fun j v hv => ?_⟩
      have hj : j < 5 := by
        have := (List.getElem?_eq_some_iff.1 hv).1
        rwa [encE_len] at this
      have h0 := hat j hj
      rw [he, hv, Go.Deep.add_add] at h0
      exact h0
    obtain ⟨es, hel, hes⟩ := list_of len key
    refine ⟨some a, len, cap, es, hcs, ?_, hel.symm, Nat.le_trans hl hm⟩
    intro i e he
    have he5 := hes i e he
    have hi0 : i < len := by rw [← hel]; exact (List.getElem?_eq_some_iff.1 he).1
    obtain ⟨e0, h00⟩ : ∃ e0, es[0]? = some e0 := ⟨es[0]'(by omega), List.getElem?_eq_getElem _⟩
    have hz := hes 0 e0 h00 0 _ rfl
    rw [Nat.zero_mul, Nat.add_zero, add_zero_] at hz
    obtain ⟨b, o, sp⟩ := a
    have hsp : sp = none := spot_none hz
    subst hsp
    have h0 := he5 0 _ rfl
    rw [add_at] at h0
    refine ⟨b, o, rfl, World.block_lt_of_cell? w _ h0, fun j u hu => ?_⟩
    have := he5 j u hu
    rw [add_at] at this
    rw [Nat.add_assoc]
    exact this
/-- What a list of events that came in is. -/
structure ArgEvs (w : World) (E : EvsE) : Prop where
  reads : EvsRd w E
  max : E.n ≤ maxLen
set_option maxRecDepth 100000 in
theorem open_events {r : Reach} {b0 : Nat} {v : Value} {d : DataW H} {p : List MemPlace} (hv : Value.okWide Tryd.prog w r b0 22 v) (h : DataW.Trod enc Tryd.prog w base spare held 22 v d p) :
    ∃ E : EvsE, v = .slice E.a E.n E.c ∧ ArgEvs w E := by
  obtain ⟨a, l, c, rfl⟩ := okWide_slice Tryd.underlying22 hv
  obtain ⟨fuel, hf⟩ := h
  have hf' : DataW.trod enc Tryd.prog w base spare held fuel 22 [.slice a l c] = some (d, p) := hf
  obtain ⟨a', n', c', es, e, hr, hn, hm⟩ := open_events_cell hf'
  simp only [Value.slice.injEq] at e
  obtain ⟨rfl, rfl, rfl⟩ := e
  exact ⟨⟨a, l, c, es⟩, rfl, ⟨hr, hn⟩, hm⟩
set_option maxRecDepth 100000 in
theorem open_event {r : Reach} {b0 : Nat} {v : Value} {d : DataW H} {p : List MemPlace} (hv : Value.okWide Tryd.prog w r b0 48 v) (h : DataW.Trod enc Tryd.prog w base spare held 48 v d p) :
    ∃ V : Ev, v = .agg #[.int .i64 V.t, .int .i64 V.c.k, .int .i64 V.c.b, .int .i64 V.c.r, .int .i64 V.c.c] := by
  obtain ⟨cs, rfl, hsz⟩ := okWide_struct Tryd.underlying48 hv
  obtain ⟨fuel, hf⟩ := h
  obtain ⟨e, he⟩ := trod_event hf
  refine ⟨e, ?_⟩
  congr 1
  apply Array.toList_inj.1
  simpa [Value.cells, encE] using he
end
end Go.Proofs.YtggjheapjklhgaaDoor

/- Arguments that came in: summaries. -/
namespace Go.Proofs.YtggjheapjklhgaaDoor
open Go.ChangeShapes Go.WideShapes Go.ChangeAt Go.RowKit Go.Joins Go.Deep

theorem RdyE.small_of {X Y : RdyE} (h : X.d = Y.d) (hs : Y.small) : X.small := by
  obtain ⟨h1, h2⟩ := RdyD.parts h
  have e1 : X.last = Y.last := h1
  have e2 : X.acts = Y.acts := h2
  unfold RdyE.small
  rw [e1, e2]
  exact hs
section
variable {H : Type} {enc : TypeId × Value → H} {w : World} {base : Nat} {spare : Nat → Bool} {held : Bool}
/-- What a summary that came in is. -/
structure ArgReady (w : World) (Y : RdyE) : Prop where
  reads : RdyR w Y
  max : Y.s0.n ≤ maxLen ∧ Y.s1.n ≤ maxLen
theorem ArgReady.small {w : World} {Y : RdyE} (h : ArgReady w Y) (hn : (Y.n : Int) ≤ 1048576) : Y.small := by
  have h0 := h.reads.l0
  have h1 := h.reads.l1
  have hn' : ((Y.n : Nat) : Int) = (Y.s0.n : Int) + (Y.s1.n : Int) := by unfold RdyE.n; omega
  exact ⟨by omega, by omega⟩
end
end Go.Proofs.YtggjheapjklhgaaDoor
