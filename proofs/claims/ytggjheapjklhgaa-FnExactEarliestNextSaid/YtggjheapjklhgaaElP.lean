/- EarliestNext: plain law. -/
import Derived.Test.YtggjheapjklhgaaTfP
import Derived.Test.YtggjheapjklhgaaTen
namespace Go.Proofs.Ytggjheapjklhgaa
open Go.RowKit
def earlAll (G : Geo) (T : Tim) (es : List Ev) (C : Cmd) : Int := if (C.k == 1) = true then mx (earl G T es C) (fawT T es) else earl G T es C
def nextB (G : Geo) (T : Tim) (es : List Ev) (C : Cmd) : Bool := (traceFault G T es).1 == 0 && (decide (es.length < 2000) && allowed G (traceEnd G es).1 C)
def earliestNext (G : Geo) (T : Tim) (es : List Ev) (C : Cmd) : Int := if nextB G T es C = true then (if 1000000 < earlAll G T es C then -1 else earlAll G T es C) else -1
theorem earliestNext_no {G : Geo} {T : Tim} {es : List Ev} {C : Cmd} (h : nextB G T es C = false) : earliestNext G T es C = -1 := by unfold earliestNext; rw [if_neg (by simp [h])]
theorem earliestNext_yes {G : Geo} {T : Tim} {es : List Ev} {C : Cmd} (h : nextB G T es C = true) : earliestNext G T es C = if 1000000 < earlAll G T es C then -1 else earlAll G T es C := by unfold earliestNext; rw [if_pos h]
theorem chk_zero {G : Geo} {T : Tim} {pre : List Ev} {D : RkD} {e : Ev} (h : chk G T pre D e = 0) : formB G pre e = true ∧ may D e.c = true ∧ decide (e.t < earl G T pre e.c) = false ∧ (e.c.k == 1 && decide (e.t < fawT T pre)) = false := by
  unfold chk at h
  split at h
  · exact absurd h (by decide)
  split at h
  · exact absurd h (by decide)
  split at h
  · exact absurd h (by decide)
  split at h
  · exact absurd h (by decide)
  · rename_i h1 h2 h3 h4
    exact ⟨by simpa using h1, by simpa using h2, by simpa using h3, by simpa using h4⟩
theorem faultFrom_zero {G : Geo} {T : Tim} : ∀ (es pre : List Ev) (D : RkD), rankOk G D = true → (faultFrom G T pre D es).1 = 0 → timesOk es ∧ (∀ e ∈ es, cmdOk G e.c = true) ∧ ∃ D', endFrom G D es = some D' ∧ rankOk G D' = true
  | [], pre, D, hr, _ => ⟨(fun e he => by cases he), (fun e he => by cases he), D, rfl, hr⟩
  | e :: es, pre, D, hr, h => by
    unfold faultFrom at h
    split at h
    · rename_i hc
      obtain ⟨h1, h2, _, _⟩ := chk_zero hc
      unfold formB at h1
      simp only [Bool.and_eq_true] at h1
      obtain ⟨f1, f2, _⟩ := h1
      obtain ⟨i1, i2, D', i3, i4⟩ := faultFrom_zero es (pre ++ [e]) (doR D e.c) (doR_ok hr f1 h2) h
      have ha : allowed G D e.c = true := by rw [allowed_may hr f1]; exact h2
      refine ⟨fun x hx => ?_, fun x hx => ?_, D', ?_, i4⟩
      · rcases List.mem_cons.1 hx with rfl | hx
        · exact inB_iff.1 f2
        · exact i1 x hx
      · rcases List.mem_cons.1 hx with rfl | hx
        · exact f1
        · exact i2 x hx
      · unfold endFrom
        rw [if_pos ha, rankAfter_yes ha]; exact i3
    · rename_i hc
      exact absurd h hc
/-- What a trace without faults is. -/
structure NoFault (G : Geo) (T : Tim) (es : List Ev) : Prop where
  geo : gOk G = true
  tim : timOk T = true
  len : es.length ≤ 2000
  times : timesOk es
  cmds : ∀ e ∈ es, cmdOk G e.c = true
  ends : ∃ D, endFrom G (rankNew G) es = some D ∧ rankOk G D = true
theorem NoFault.of {G : Geo} {T : Tim} {es : List Ev} (h : (traceFault G T es).1 = 0) : NoFault G T es := by
  unfold traceFault at h
  split at h
  · rename_i hc
    simp only [Bool.and_eq_true, decide_eq_true_eq] at hc
    obtain ⟨⟨h1, h2⟩, h3⟩ := hc
    obtain ⟨i1, i2, i3⟩ := faultFrom_zero es [] (rankNew G) (rankNew_ok h1) h
    exact ⟨h1, h2, h3, i1, i2, i3⟩
  · cases h
theorem NoFault.end_ {G : Geo} {T : Tim} {es : List Ev} (h : NoFault G T es) : (traceEnd G es).2 = true := by
  obtain ⟨D, hd, _⟩ := h.ends
  rw [traceEnd_some hd h.geo]
theorem fawT_bd {T : Tim} {es : List Ev} (ht : timOk T = true) (h : timesOk es) : 0 ≤ fawT T es ∧ fawT T es ≤ 1000064 := by
  unfold fawT
  split
  · omega
  · rename_i hl
    have h5 := (timOk_bd ht).b5
    have hx : (actsOf es)[(actsOf es).length - 4]? = some ((actsOf es)[(actsOf es).length - 4]'(by omega)) := List.getElem?_eq_getElem _
    have hb := actsOf_times h _ (List.mem_of_getElem? hx)
    rw [getD_of hx]
    omega
theorem nextB_code {G : Geo} {T : Tim} {es : List Ev} {C : Cmd} (h : ((traceFault G T es).1 == 0) = false) : nextB G T es C = false := by unfold nextB; rw [h]; rfl
theorem nextB_len {G : Geo} {T : Tim} {es : List Ev} {C : Cmd} (h : ¬ es.length < 2000) : nextB G T es C = false := by unfold nextB; simp [h]
theorem nextB_may {G : Geo} {T : Tim} {es : List Ev} {C : Cmd} (h : allowed G (traceEnd G es).1 C = false) : nextB G T es C = false := by unfold nextB; simp [h]
theorem nextB_yes {G : Geo} {T : Tim} {es : List Ev} {C : Cmd} (h1 : ((traceFault G T es).1 == 0) = true) (h2 : es.length < 2000) (h3 : allowed G (traceEnd G es).1 C = true) : nextB G T es C = true := by unfold nextB; rw [h1, h3]; simp [h2]
theorem earlAll_no {G : Geo} {T : Tim} {es : List Ev} {C : Cmd} {m : Int} (h : (C.k == 1) = false) (hm : earl G T es C = m) : earlAll G T es C = m := by unfold earlAll; rw [if_neg (by simp [h]), hm]
theorem earlAll_yes {G : Geo} {T : Tim} {es : List Ev} {C : Cmd} {m f : Int} (h : (C.k == 1) = true) (hm : earl G T es C = m) (hf : fawT T es = f) : earlAll G T es C = mx m f := by unfold earlAll; rw [if_pos h, hm, hf]
end Go.Proofs.Ytggjheapjklhgaa
