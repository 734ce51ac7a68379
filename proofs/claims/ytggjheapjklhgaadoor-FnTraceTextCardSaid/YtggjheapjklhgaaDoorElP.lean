/- EarliestNext: plain law. -/
import Derived.Test.YtggjheapjklhgaaDoorTfP
import Derived.Test.YtggjheapjklhgaaDoorTen
namespace Go.Proofs.YtggjheapjklhgaaDoor
open Go.RowKit
def earlAll (G : Geo) (T : Tim) (es : List Ev) (C : Cmd) : Int := if (C.k == 1) = true then mx (earl G T es C) (fawT T es) else earl G T es C
def nextB (G : Geo) (T : Tim) (es : List Ev) (C : Cmd) : Bool := (traceFault G T es).1 == 0 && (decide (es.length < 2000) && allowed G (traceEnd G es).1 C)
def earliestNext (G : Geo) (T : Tim) (es : List Ev) (C : Cmd) : Int := if nextB G T es C = true then (if 1000000 < earlAll G T es C then -1 else earlAll G T es C) else -1
theorem earliestNext_no {G : Geo} {T : Tim} {es : List Ev} {C : Cmd} (h : nextB G T es C = false) : earliestNext G T es C = -1 := by unfold earliestNext; rw [if_neg (by simp [h])]
theorem earliestNext_yes {G : Geo} {T : Tim} {es : List Ev} {C : Cmd} (h : nextB G T es C = true) : earliestNext G T es C = if 1000000 < earlAll G T es C then -1 else earlAll G T es C := by unfold earliestNext; rw [if_pos h]
theorem chk_zero {G : Geo} {T : Tim} {pre : List Ev} {D : RkD} {e : Ev} (h : chk G T pre D e = 0) : formB G pre e = true ∧ may D e.c = true ∧ decide (e.t < earl G T pre e.c) = false ∧ (e.c.k == 1 && decide (e.t < fawT T pre)) = false := by
  unfold chk at h
  split at h
  · exact absurd h (by decide)
  split at h
  · exact absurd h (by decide)
  split at h
  · exact absurd h (by decide)
  split at h
  · exact absurd h (by decide)
  · rename_i h1 h2 h3 h4
    exact ⟨by simpa using h1, by simpa using h2, by simpa using h3, by simpa using h4⟩
theorem faultFrom_zero {G : Geo} {T : Tim} : ∀ (es pre : List Ev) (D : RkD), rankOk G D = true → (faultFrom G T pre D es).1 = 0 → timesOk es ∧ (∀ e ∈ es, cmdOk G e.c = true) ∧ ∃ D', endFrom G D es = some D' ∧ rankOk G D' = true
  | [], pre, D, hr, _ => ⟨(fun e he => by cases he), (fun e he => by cases he), D, rfl, hr⟩
  | e :: es, pre, D, hr, h => by
    unfold faultFrom at h
    split at h
    · rename_i hc
      obtain ⟨h1, h2, _, _⟩ := chk_zero hc
      unfold formB at h1
      simp only [Bool.and_eq_true] at h1
      obtain ⟨f1, f2, _⟩ := h1
      obtain ⟨i1, i2, D', i3, i4⟩ := faultFrom_zero es (pre ++ [e]) (doR D e.c) (doR_ok hr f1 h2) h
      have ha : allowed G D e.c = true := by rw [allowed_may hr f1]; exact h2
      refine ⟨fun x hx => ?_, fun x hx => ?_, D', ?_, i4⟩
      · rcases List.mem_cons.1 hx with rfl | hx
        · exact inB_iff.1 f2
        · exact i1 x hx
      · rcases List.mem_cons.1 hx with rfl | hx
        · exact f1
        · exact i2 x hx
      · unfold endFrom
        rw [if_pos ha, rankAfter_yes ha]; exact i3
    · rename_i hc
      exact absurd h hc
/-- What a trace without faults is. -/
structure NoFault (G : Geo) (T : Tim) (es : List Ev) : Prop where
  geo : gOk G = true
  tim : timOk T = true
  len : es.length ≤ 2000
  times : timesOk es
  cmds : ∀ e ∈ es, cmdOk G e.c = true
  ends : ∃ D, endFrom G (rankNew G) es = some D ∧ rankOk G D = true
theorem NoFault.of {G : Geo} {T : Tim} {es : List Ev} (h : (traceFault G T es).1 = 0) : NoFault G T es := by
  unfold traceFault at h
  split at h
  · rename_i hc
    simp only [Bool.and_eq_true, decide_eq_true_eq] at hc
    obtain ⟨⟨h1, h2⟩, h3⟩ := hc
    obtain ⟨i1, i2, i3⟩ := faultFrom_zero es [] (rankNew G) (rankNew_ok h1) h
    exact ⟨h1, h2, h3, i1, i2, i3⟩
  · cases h
theorem NoFault.end_ {G : Geo} {T : Tim} {es : List Ev} (h : NoFault G T es) : (traceEnd G es).2 = true := by
  obtain ⟨D, hd, _⟩ := h.ends
  rw [traceEnd_some hd h.geo]
theorem fawT_bd {T : Tim} {es : List Ev} (ht : timOk T = true) (h : timesOk es) : 0 ≤ fawT T es ∧ fawT T es ≤ 1000064 := by
  unfold fawT
  split
  · omega
  · rename_i hl
    have h5 := (timOk_bd ht).b5
    have hx : (actsOf es)[(actsOf es).length - 4]? = some ((actsOf es)[(actsOf es).length - 4]'(by omega)) := List.getElem?_eq_getElem _
    have hb := actsOf_times h _ (List.mem_of_getElem? hx)
    rw [getD_of hx]
    omega
theorem nextB_code {G : Geo} {T : Tim} {es : List Ev} {C : Cmd} (h : ((traceFault G T es).1 == 0) = false) : nextB G T es C = false := by unfold nextB; rw [h]; rfl
theorem nextB_len {G : Geo} {T : Tim} {es : List Ev} {C : Cmd} (h : ¬ es.length < 2000) : nextB G T es C = false := by unfold nextB; simp [h]
theorem nextB_may {G : Geo} {T : Tim} {es : List Ev} {C : Cmd} (h : allowed G (traceEnd G es).1 C = false) : nextB G T es C = false := by unfold nextB; simp [h]
theorem nextB_yes {G : Geo} {T : Tim} {es : List Ev} {C : Cmd} (h1 : ((traceFault G T es).1 == 0) = true) (h2 : es.length < 2000) (h3 : allowed G (traceEnd G es).1 C = true) : nextB G T es C = true := by unfold nextB; rw [h1, h3]; simp [h2]
theorem earlAll_no {G : Geo} {T : Tim} {es : List Ev} {C : Cmd} {m : Int} (h : (C.k == 1) = false) (hm : earl G T es C = m) : earlAll G T es C = m := by unfold earlAll; rw [if_neg (by simp [h]), hm]
theorem earlAll_yes {G : Geo} {T : Tim} {es : List Ev} {C : Cmd} {m f : Int} (h : (C.k == 1) = true) (hm : earl G T es C = m) (hf : fawT T es = f) : earlAll G T es C = mx m f := by unfold earlAll; rw [if_pos h, hm, hf]
end Go.Proofs.YtggjheapjklhgaaDoor

/- Plain laws on traces without faults: prefixes, one event more, the earliest time. -/
namespace Go.Proofs.YtggjheapjklhgaaDoor
open Go.RowKit
theorem faultFrom_append {G : Geo} {T : Tim} : ∀ (xs pre : List Ev) (D : RkD), rankOk G D = true → (faultFrom G T pre D xs).1 = 0 → ∃ D', endFrom G D xs = some D' ∧ rankOk G D' = true ∧ ∀ ys, faultFrom G T pre D (xs ++ ys) = faultFrom G T (pre ++ xs) D' ys
  | [], pre, D, hr, _ => ⟨D, rfl, hr, fun ys => by simp⟩
  | e :: es, pre, D, hr, h => by
    unfold faultFrom at h
    split at h
    · rename_i hc
      obtain ⟨h1, h2, _, _⟩ := chk_zero hc
      unfold formB at h1
      simp only [Bool.and_eq_true] at h1
      obtain ⟨f1, f2, _⟩ := h1
      obtain ⟨D', i3, i4, i5⟩ := faultFrom_append es (pre ++ [e]) (doR D e.c) (doR_ok hr f1 h2) h
      have ha : allowed G D e.c = true := by rw [allowed_may hr f1]; exact h2
      refine ⟨D', ?_, i4, fun ys => ?_⟩
      · unfold endFrom
        rw [if_pos ha, rankAfter_yes ha]; exact i3
      · rw [List.cons_append]
        conv => lhs; unfold faultFrom
        rw [if_pos hc, i5 ys, List.append_assoc, List.singleton_append]
    · rename_i hc
      exact absurd h hc
theorem faultFrom_prefix {G : Geo} {T : Tim} : ∀ (xs ys pre : List Ev) (D : RkD), (faultFrom G T pre D (xs ++ ys)).1 = 0 → faultFrom G T pre D xs = (0, -1)
  | [], _, _, _, _ => rfl
  | e :: es, ys, pre, D, h => by
    rw [List.cons_append] at h
    unfold faultFrom at h ⊢
    split at h
    · rename_i hc
      rw [if_pos hc]
      exact faultFrom_prefix es ys _ _ h
    · rename_i hc
      exact absurd h hc
/-- A trace without faults, its end, its times small. -/
structure TrOk (G : Geo) (T : Tim) (es : List Ev) (D : RkD) : Prop where
  geo : gOk G = true
  tim : timOk T = true
  flt : faultFrom G T [] (rankNew G) es = (0, -1)
  ends : endFrom G (rankNew G) es = some D
  ok : rankOk G D = true
  bd : ∀ e ∈ es, 0 ≤ e.t ∧ e.t ≤ 200 * (es.length : Int)
  cmds : ∀ e ∈ es, cmdOk G e.c = true
theorem TrOk.start {G : Geo} {T : Tim} (hg : gOk G = true) (ht : timOk T = true) : TrOk G T [] (rankNew G) := ⟨hg, ht, rfl, rfl, rankNew_ok hg, (fun e he => by cases he), fun e he => by cases he⟩
theorem TrOk.more {G : Geo} {T : Tim} {es : List Ev} {D : RkD} (h : TrOk G T es D) (ys : List Ev) : faultFrom G T [] (rankNew G) (es ++ ys) = faultFrom G T es D ys := by
  obtain ⟨D', h1, _, h2⟩ := faultFrom_append es [] (rankNew G) (rankNew_ok h.geo) (by rw [h.flt])
  rw [h.ends] at h1
  simp only [Option.some.injEq] at h1
  subst h1
  rw [h2 ys, List.nil_append]
theorem TrOk.fault {G : Geo} {T : Tim} {es : List Ev} {D : RkD} (h : TrOk G T es D) (hl : es.length ≤ 1000) : traceFault G T es = (0, -1) := by
  rw [traceFault_yes h.geo h.tim (by omega)]; exact h.flt
theorem TrOk.fault1 {G : Geo} {T : Tim} {es : List Ev} {D : RkD} (h : TrOk G T es D) (hl : es.length ≤ 1000) (e : Ev) : traceFault G T (es ++ [e]) = if chk G T es D e = 0 then (0, -1) else (chk G T es D e, (es.length : Int)) := by
  rw [traceFault_yes h.geo h.tim (by simp; omega), h.more]
  rfl
theorem TrOk.end_ {G : Geo} {T : Tim} {es : List Ev} {D : RkD} (h : TrOk G T es D) : traceEnd G es = (D, true) := traceEnd_some h.ends h.geo
theorem TrOk.times {G : Geo} {T : Tim} {es : List Ev} {D : RkD} (h : TrOk G T es D) (hl : es.length ≤ 1000) : timesOk es := fun e he => by have := h.bd e he; omega
theorem TrOk.pre {G : Geo} {T : Tim} {es : List Ev} {D : RkD} (h : TrOk G T es D) (n : Nat) : faultFrom G T [] (rankNew G) (es.take n) = (0, -1) :=
  faultFrom_prefix (es.take n) (es.drop n) _ _ (by rw [List.take_append_drop, h.flt])
/-- A prefix of a trace without faults has none, and ends in a valid state. -/
theorem TrOk.take {G : Geo} {T : Tim} {es : List Ev} {D : RkD} (h : TrOk G T es D) (n : Nat) : ∃ D', rankOk G D' = true ∧ endFrom G (rankNew G) (es.take n) = some D' ∧ ∀ ys, faultFrom G T [] (rankNew G) (es.take n ++ ys) = faultFrom G T (es.take n) D' ys := by
  obtain ⟨D', h1, h2, h3⟩ := faultFrom_append (es.take n) [] (rankNew G) (rankNew_ok h.geo) (by rw [h.pre n])
  exact ⟨D', h2, h1, fun ys => by rw [h3 ys, List.nil_append]⟩
theorem earl_bd2 {G : Geo} {T : Tim} {C : Cmd} {m : Int} (ht : timOk T = true) : ∀ (es : List Ev) (a : Int), (∀ e ∈ es, 0 ≤ e.t ∧ e.t ≤ m) → 0 ≤ a → a ≤ m + 128 → 0 ≤ earlF G T C a es ∧ earlF G T C a es ≤ m + 128
  | [], a, _, h0, h1 => ⟨h0, h1⟩
  | e :: es, a, h, h0, h1 => by
    have hb := gapF_bd ht G e.c C
    have he := h e List.mem_cons_self
    have := mx_le a (e.t + gapF G T e.c C)
    have h2 := mx_eq a (e.t + gapF G T e.c C)
    exact earl_bd2 ht es (mx a (e.t + gapF G T e.c C)) (fun x hx => h x (List.mem_cons_of_mem _ hx)) (by omega) (by omega)
theorem actsOf_bd {m : Int} : ∀ {es : List Ev}, (∀ e ∈ es, 0 ≤ e.t ∧ e.t ≤ m) → ∀ x ∈ actsOf es, 0 ≤ x ∧ x ≤ m
  | [], _, x, hx => by cases hx
  | e :: es, h, x, hx => by
    have hr := actsOf_bd (es := es) (fun y hy => h y (List.mem_cons_of_mem _ hy))
    unfold actsOf at hx
    split at hx
    · rcases List.mem_cons.1 hx with rfl | hx
      · exact h e List.mem_cons_self
      · exact hr x hx
    · exact hr x hx
theorem fawT_bd2 {T : Tim} {es : List Ev} {m : Int} (ht : timOk T = true) (hm : 0 ≤ m) (h : ∀ e ∈ es, 0 ≤ e.t ∧ e.t ≤ m) : 0 ≤ fawT T es ∧ fawT T es ≤ m + 64 := by
  have h5 := (timOk_bd ht).b5
  unfold fawT
  split
  · omega
  · rename_i hl
    have hx : (actsOf es)[(actsOf es).length - 4]? = some ((actsOf es)[(actsOf es).length - 4]'(by omega)) := List.getElem?_eq_getElem _
    have hb := actsOf_bd h _ (List.mem_of_getElem? hx)
    rw [getD_of hx]
    omega
theorem TrOk.all_bd {G : Geo} {T : Tim} {es : List Ev} {D : RkD} (h : TrOk G T es D) (C : Cmd) : 0 ≤ earlAll G T es C ∧ earlAll G T es C ≤ 200 * (es.length : Int) + 128 := by
  have h1 := earl_bd2 (G := G) (C := C) h.tim es 0 h.bd (by omega) (by omega)
  have h2 := fawT_bd2 h.tim (by omega) h.bd
  unfold earlAll
  split
  · have := mx_eq (earl G T es C) (fawT T es)
    unfold earl at *
    omega
  · exact h1
/-- The earliest time is not below the last event's time. -/
theorem earl_last {G : Geo} {T : Tim} {es : List Ev} {C : Cmd} {x : Ev} (ht : timOk T = true) (hx : es.getLast? = some x) : x.t < earl G T es C := by
  refine (earlF_lt x.t es 0).2 (.inr ⟨x, List.mem_of_getLast? hx, ?_⟩)
  have := gapF_bd ht G x.c C
  omega
theorem earlAll_ge {G : Geo} {T : Tim} {es : List Ev} {C : Cmd} : earl G T es C ≤ earlAll G T es C := by
  unfold earlAll
  split
  · exact (mx_le _ _).1
  · exact Int.le_refl _
/-- From the earliest time on there is no fault. -/
theorem TrOk.chk_at {G : Geo} {T : Tim} {es : List Ev} {D : RkD} (h : TrOk G T es D) {C : Cmd} {t : Int} (hc : cmdOk G C = true) (hm : may D C = true) (h0 : earlAll G T es C ≤ t) (h1 : t ≤ 1000000) : chk G T es D ⟨t, C⟩ = 0 := by
  have hb := h.all_bd C
  have hge := earlAll_ge (G := G) (T := T) (es := es) (C := C)
  refine chk_ok ?_ hm (by simp; omega) ?_
  · unfold formB
    rw [hc, Bool.true_and, Bool.and_eq_true]
    refine ⟨inB_iff.2 ⟨by show 0 ≤ t; omega, h1⟩, ?_⟩
    unfold orderB
    split
    · rfl
    · rename_i x hx
      have := earl_last (G := G) (C := C) h.tim hx
      simp; omega
  · cases hk : (C.k == 1)
    · rfl
    · have : earlAll G T es C = mx (earl G T es C) (fawT T es) := by unfold earlAll; rw [if_pos hk]
      have := (mx_le (earl G T es C) (fawT T es)).2
      simp; omega
/-- Ahead of it there is one. -/
theorem TrOk.chk_before {G : Geo} {T : Tim} {es : List Ev} {D : RkD} (_h : TrOk G T es D) {C : Cmd} {t : Int} (h0 : t < earlAll G T es C) : chk G T es D ⟨t, C⟩ ≠ 0 := by
  intro hz
  obtain ⟨_, _, h3, h4⟩ := chk_zero hz
  have h3' : ¬ t < earl G T es C := by simpa using h3
  unfold earlAll at h0
  split at h0
  · rename_i hk
    rw [hk, Bool.true_and] at h4
    have h4' : ¬ t < fawT T es := by simpa using h4
    rcases mx_eq (earl G T es C) (fawT T es) with h | h <;> rw [h] at h0 <;> omega
  · omega
theorem TrOk.chk_no {G : Geo} {T : Tim} {es : List Ev} {D : RkD} (h : TrOk G T es D) {C : Cmd} (hn : allowed G D C = false) (t : Int) : chk G T es D ⟨t, C⟩ ≠ 0 := by
  intro hz
  obtain ⟨h1, h2, _, _⟩ := chk_zero hz
  unfold formB at h1
  simp only [Bool.and_eq_true] at h1
  rw [allowed_may h.ok h1.1] at hn
  rw [hn] at h2
  cases h2
theorem TrOk.next {G : Geo} {T : Tim} {es : List Ev} {D : RkD} (h : TrOk G T es D) (hl : es.length ≤ 1000) (C : Cmd) : earliestNext G T es C = if allowed G D C = true then earlAll G T es C else -1 := by
  have hb := h.all_bd C
  have hn : nextB G T es C = allowed G D C := by
    unfold nextB
    rw [h.fault hl, h.end_]
    have : decide (es.length < 2000) = true := by simp; omega
    rw [this]
    simp
  split
  · rename_i ha
    rw [earliestNext_yes (by rw [hn]; exact ha), if_neg (by omega)]
  · rename_i ha
    exact earliestNext_no (by rw [hn]; simpa using ha)
/-- One event more, at its earliest time or a little later. -/
theorem TrOk.step {G : Geo} {T : Tim} {es : List Ev} {D : RkD} (h : TrOk G T es D) (hl : es.length ≤ 1000) {C : Cmd} (hc : cmdOk G C = true) (hm : may D C = true) {d : Int} (hd : 0 ≤ d ∧ d ≤ 4) : TrOk G T (es ++ [⟨earlAll G T es C + d, C⟩]) (doR D C) := by
  have hb := h.all_bd C
  have hz := h.chk_at hc hm (t := earlAll G T es C + d) (by omega) (by omega)
  have ha : allowed G D C = true := by rw [allowed_may h.ok hc]; exact hm
  refine ⟨h.geo, h.tim, ?_, ?_, doR_ok h.ok hc hm, fun e he => ?_, fun e he => ?_⟩
  · rw [h.more]
    unfold faultFrom
    rw [if_pos hz]
    rfl
  · have hx : ∀ (xs : List Ev) (D0 D1 : RkD) (e : Ev), endFrom G D0 xs = some D1 → allowed G D1 e.c = true → endFrom G D0 (xs ++ [e]) = some (doR D1 e.c) := by
      intro xs
      induction xs with
      | nil =>
        intro D0 D1 e h1 h2
        unfold endFrom at h1
        simp only [Option.some.injEq] at h1
        subst h1
        simp only [List.nil_append]
        unfold endFrom
        rw [if_pos h2, rankAfter_yes h2]
        rfl
      | cons x xs ih =>
        intro D0 D1 e h1 h2
        unfold endFrom at h1
        rw [List.cons_append]
        unfold endFrom
        split at h1
        · rename_i h3
          rw [if_pos h3]
          exact ih _ _ e h1 h2
        · cases h1
    exact hx es (rankNew G) D ⟨earlAll G T es C + d, C⟩ h.ends ha
  · rw [List.length_append]
    simp only [List.length_singleton]
    rcases List.mem_append.1 he with h1 | h1
    · have := h.bd e h1; omega
    · simp only [List.mem_singleton] at h1; subst h1; dsimp only; omega
  · rcases List.mem_append.1 he with h1 | h1
    · exact h.cmds e h1
    · simp only [List.mem_singleton] at h1; subst h1; exact hc
end Go.Proofs.YtggjheapjklhgaaDoor
