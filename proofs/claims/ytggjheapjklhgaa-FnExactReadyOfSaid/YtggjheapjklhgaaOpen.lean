/- Arguments that came in: structs of ints, slices, what they read as. -/
import Derived.Test.YtggjheapjklhgaaMem
import Derived.Test.YtggjheapjklhgaaLists
import Derived.Deep.Slices
import Derived.Deep.Fields
import Derived.Lib.SmallJoins
import Derived.OpenShut
namespace Go.Proofs.Ytggjheapjklhgaa
open Go.ChangeShapes Go.WideShapes Go.ChangeAt Go.RowKit Go.Joins

theorem spot_none {w : World} {x : Addr} {v : Value} (h : w.cell? x = some v) : x.spot = none := by
  unfold World.cell? at h
  split at h
  · cases e : x.spot with
    | none => rfl
    | some q => simp [e] at h
  · cases h
theorem add_zero_ (x : Addr) : x.add 0 = x := by unfold Addr.add; simp
theorem add_at (b o i : Nat) : (⟨b, o, none⟩ : Addr).add i = ⟨b, o + i, none⟩ := by unfold Addr.add; split <;> simp_all
/-- Out of 'for each there is one' a list. -/
theorem list_of {α : Type} {P : Nat → α → Prop} : ∀ (n : Nat), (∀ i, i < n → ∃ e, P i e) → ∃ es : List α, es.length = n ∧ ∀ i e, es[i]? = some e → P i e
  | 0, _ => ⟨[], rfl, fun i e h => by simp at h⟩
  | n + 1, h => by
    obtain ⟨es, hl, he⟩ := list_of n fun i hi => h i (by omega)
    obtain ⟨e, hn⟩ := h n (by omega)
    refine ⟨es ++ [e], by simp [hl], fun i x hx => ?_⟩
    rcases Nat.lt_or_ge i n with hi | hi
    · rw [List.getElem?_append_left (by omega)] at hx; exact he i x hx
    · have hin : i = n := by
        rcases Nat.eq_or_lt_of_le hi with h1 | h1
        · exact h1.symm
        · rw [List.getElem?_eq_none (by simp [hl]; omega)] at hx; cases hx
      subst hin
      rw [List.getElem?_append_right (by omega), hl, Nat.sub_self] at hx
      simp at hx; subst hx; exact hn
section
variable {H : Type} {enc : TypeId × Value → H} {P : Program} {w : World} {base : Nat} {spare : Nat → Bool} {held : Bool}
/-- The fields are ints, a cell each. -/
def intFields (P : Program) (fs : Array Field) : Bool := (List.range fs.size).all fun i => match fs[i]? with
  | some f => f.offset == i && P.cellsOf f.type == 1 && (match P.underlying f.type with | some (.int .i64) => true | _ => false)
  | none => false
/-- A struct of ints: its cells are ints. -/
theorem trod_struct_ints {t : TypeId} {fs : Array Field} {fuel : Nat} {cs : List Value} {y : DataW H × List MemPlace} (hs : P.underlying t = some (.struct fs)) (hi : intFields P fs = true) (hC : P.cellsOf t = fs.size)
    (h : DataW.trod enc P w base spare held fuel t cs = some y) : ∃ xs : List Int, cs = xs.map (Value.int .i64) ∧ xs.length = fs.size ∧ ∀ x ∈ xs, (Lit.int .i64 x).wf = true := by
  obtain ⟨xs, n, _, _, hlen, hxl, hf⟩ := DataW.trod_struct hs h
  have key : ∀ i, i < fs.size → ∃ m : Int, cs[i]? = some (.int .i64 m) ∧ (Lit.int .i64 m).wf = true := by
    intro i hi'
    unfold intFields at hi
    have h1 := List.all_eq_true.1 hi i (List.mem_range.2 hi')
    have hfi : fs[i]? = some fs[i] := Array.getElem?_eq_getElem hi'
    rw [hfi] at h1
    simp only [Bool.and_eq_true, beq_iff_eq] at h1
    obtain ⟨⟨ho, hk⟩, hu⟩ := h1
    have h2 := hf i fs[i] hfi
    have hx : xs[i]? = some (xs[i]'(by omega)) := List.getElem?_eq_getElem _
    rw [ho, hk, hx] at h2
    have hci : i < cs.length := by omega
    have e1 : (cs.drop i).take 1 = [cs[i]] := by rw [List.drop_eq_getElem_cons hci]; rfl
    rw [e1] at h2
    cases hue : P.underlying fs[i].type with
    | none => rw [hue] at hu; cases hu
    | some d =>
      rw [hue] at hu
      have hd : d = .int .i64 := by
        split at hu
        · rename_i heq; simpa using heq
        · cases hu
      subst hd
      obtain ⟨m, hm, _, hw⟩ := DataW.trod_int hue h2
      simp only [List.cons.injEq, and_true] at hm
      exact ⟨m, by rw [List.getElem?_eq_getElem hci, hm], hw⟩
  obtain ⟨ys, hy, hp⟩ := list_of (P := fun i m => cs[i]? = some (.int .i64 m) ∧ (Lit.int .i64 m).wf = true) fs.size key
  refine ⟨ys, ?_, hy, fun x hx => ?_⟩
  · apply List.ext_getElem?
    intro i
    rw [List.getElem?_map]
    by_cases hi' : i < fs.size
    · have hyi : ys[i]? = some (ys[i]'(by omega)) := List.getElem?_eq_getElem _
      rw [hyi]; exact (hp i _ hyi).1
    · rw [List.getElem?_eq_none (by omega), List.getElem?_eq_none (by omega)]; rfl
  · obtain ⟨i, hi', rfl⟩ := List.mem_iff_getElem.1 hx
    exact (hp i _ (List.getElem?_eq_getElem hi')).2
theorem open_struct_ints {r : Reach} {b0 : Nat} {t : TypeId} {fs : Array Field} {v : Value} {d : DataW H} {p : List MemPlace} (hs : P.underlying t = some (.struct fs)) (hi : intFields P fs = true) (hC : P.cellsOf t = fs.size)
    (hv : Value.okWide P w r b0 t v) (h : DataW.Trod enc P w base spare held t v d p) : ∃ xs : List Int, v = .agg (xs.map (Value.int .i64)).toArray ∧ xs.length = fs.size ∧ ∀ x ∈ xs, (Lit.int .i64 x).wf = true := by
  obtain ⟨cs, rfl, hsz⟩ := okWide_struct hs hv
  obtain ⟨fuel, hf⟩ := h
  obtain ⟨xs, hx, hl, hw⟩ := trod_struct_ints hs hi hC hf
  refine ⟨xs, ?_, hl, hw⟩
  congr 1
  apply Array.toList_inj.1
  simpa [Value.cells] using hx
/-- A slice of ints, from its cell. -/
theorem open_ints_cell {t e : TypeId} {fuel : Nat} {v : Value} {x : DataW H × List MemPlace} (ht : P.underlying t = some (.slice e)) (he : P.underlying e = some (.int .i64)) (hc : P.cellsOf e = 1)
    (h : DataW.trod enc P w base spare held fuel t [v] = some x) : ∃ a n c zs, v = .slice a n c ∧ IntsR w a zs ∧ n = zs.length ∧ n ≤ c ∧ c ≤ maxLen ∧ ∀ x ∈ zs, (Lit.int .i64 x).wf = true := by
  rcases open_ints ht he hc h with ⟨hcs, _⟩ | ⟨a, len, cap, zs, hcs, _, hl, hm, hz, _, hcell, hwz⟩
  · simp only [List.cons.injEq, and_true] at hcs
    exact ⟨none, 0, 0, [], hcs, IntsR.nil _ _, rfl, Nat.le_refl _, by unfold maxLen; omega, fun x hx => by cases hx⟩
  · simp only [List.cons.injEq, and_true] at hcs
    have hzl : len ≤ zs.length := by rw [hz]; split <;> omega
    refine ⟨some a, len, cap, zs.take len, hcs, ?_, by simp; omega, hl, hm, fun x hx => hwz x (List.mem_of_mem_take hx)⟩
    intro i y hy
    have hi : i < len ∧ zs[i]? = some y := by
      rw [List.getElem?_take] at hy
      split at hy
      · exact ⟨by assumption, hy⟩
      · cases hy
    have h0 := hcell 0 (by omega)
    rw [add_zero_] at h0
    obtain ⟨b, o, sp⟩ := a
    have hsp : sp = none := spot_none h0
    subst hsp
    have h1 := hcell i (by omega)
    rw [add_at, List.getD_eq_getElem?_getD, hi.2] at h1
    exact ⟨b, o, rfl, World.block_lt_of_cell? w _ h1, h1⟩
end
end Go.Proofs.Ytggjheapjklhgaa
