/- ReadyAt: plain law. -/
import Derived.Test.YtggjheapjklhgaaTfP
import Derived.Test.YtggjheapjklhgaaRyA
namespace Go.Proofs.Ytggjheapjklhgaa
open Go.RowKit
def stepY (G : Geo) (T : Tim) (C : Cmd) (i : Nat) (a n : Int) : Int := if n < 0 then a else mx a (n + gapF G T (cmdAt G i) C)
def maxY (G : Geo) (T : Tim) (C : Cmd) (xs : List Int) : Nat → Int
  | 0 => 0
  | k + 1 => stepY G T C k (maxY G T C xs k) (xs.getD k 0)
/-- The least time by the summary, without the limit. -/
def atY (G : Geo) (T : Tim) (D : RdyD) (C : Cmd) : Int :=
  if (C.k == 1 && decide (D.acts.length = 4)) = true then mx (maxY G T C D.last D.last.length) (D.acts.getD 0 0 + T.t5) else maxY G T C D.last D.last.length
def readyAt (G : Geo) (T : Tim) (D : RdyD) (C : Cmd) : Int :=
  if (timOk T && (readyOk G D && cmdOk G C)) = true then (if 1000000 < atY G T D C then -1 else atY G T D C) else -1
theorem readyAt_no {G : Geo} {T : Tim} {D : RdyD} {C : Cmd} (h : (timOk T && (readyOk G D && cmdOk G C)) = false) : readyAt G T D C = -1 := by unfold readyAt; rw [if_neg (by simp [h])]
theorem readyAt_yes {G : Geo} {T : Tim} {D : RdyD} {C : Cmd} (h1 : timOk T = true) (h2 : readyOk G D = true) (h3 : cmdOk G C = true) : readyAt G T D C = if 1000000 < atY G T D C then -1 else atY G T D C := by unfold readyAt; rw [if_pos (by simp [h1, h2, h3])]
/-- What a valid summary says of its cells. -/
structure RyB1 (G : Geo) (D : RdyD) : Prop where
  geo : gOk G = true
  last : ∀ (i : Nat) (x : Int), D.last[i]? = some x → (-1 ≤ x ∧ x ≤ 1000000) ∧ (x = -1 ∨ usedB G i = true)
  acts : ∀ (i : Nat) (x : Int), D.acts[i]? = some x → 0 ≤ x ∧ x ≤ 1000000
theorem RyB1.of {G : Geo} {D : RdyD} (h : readyOk G D = true) : RyB1 G D := by
  unfold readyOk at h
  simp only [Bool.and_eq_true] at h
  obtain ⟨⟨⟨⟨hg, _⟩, _⟩, hl⟩, ha⟩ := h
  refine ⟨hg, fun i x hx => ?_, fun i x hx => ?_⟩
  · have hi := (List.getElem?_eq_some_iff.1 hx).1
    unfold allTo at hl
    have h1 := List.all_eq_true.1 hl i (List.mem_range.2 hi)
    unfold okL at h1
    rw [getD_of hx] at h1
    simp only [Bool.and_eq_true, Bool.or_eq_true, beq_iff_eq] at h1
    exact ⟨inB_iff.1 h1.1, h1.2.symm⟩
  · have hi := (List.getElem?_eq_some_iff.1 hx).1
    unfold allTo at ha
    have h1 := List.all_eq_true.1 ha i (List.mem_range.2 hi)
    unfold okA at h1
    rw [getD_of hx] at h1
    simp only [Bool.and_eq_true] at h1
    exact inB_iff.1 h1.1
theorem maxY_bd {G : Geo} {T : Tim} {C : Cmd} {D : RdyD} (ht : timOk T = true) (h : RyB1 G D) : ∀ k, k ≤ D.last.length → 0 ≤ maxY G T C D.last k ∧ maxY G T C D.last k ≤ 1000128
  | 0, _ => by unfold maxY; omega
  | k + 1, hk => by
    have ih := maxY_bd (C := C) ht h k (by omega)
    have hx : D.last[k]? = some (D.last[k]'(by omega)) := List.getElem?_eq_getElem _
    have hb := (h.last k _ hx).1
    have hg := gapF_bd ht G (cmdAt G k) C
    unfold maxY stepY
    rw [getD_of hx]
    split
    · exact ih
    · have h4 := mx_le (maxY G T C D.last k) (D.last[k] + gapF G T (cmdAt G k) C)
      have h5 := mx_eq (maxY G T C D.last k) (D.last[k] + gapF G T (cmdAt G k) C)
      omega
/-- The command that is kept at a used place. -/
theorem cmdAt_used {G : Geo} {i : Nat} (h : usedB G i = true) : cmdAt G i = ⟨(i : Int) % 9 + 1, if decide ((i : Int) % 9 + 1 ≤ 5) = true then (i : Int) / 9 else 0, 0, 0⟩ ∧ bkOk G (cmdAt G i) := by
  unfold usedB at h
  have h1 : usesB ((i : Int) % 9 + 1) = decide ((i : Int) % 9 + 1 ≤ 5) := usesB_le (by omega)
  rw [h1] at h
  have h2 : decide ((i : Int) / 9 < bankN G) = decide ((i : Int) % 9 + 1 ≤ 5) := by simpa using h
  refine ⟨by unfold cmdAt; rw [h2], ⟨by show 1 ≤ (i : Int) % 9 + 1 ∧ (i : Int) % 9 + 1 ≤ 9; omega, fun hu => ?_⟩⟩
  have hu' : usesB ((i : Int) % 9 + 1) = true := hu
  rw [h1, ← h2] at hu'
  show 0 ≤ (if decide ((i : Int) / 9 < bankN G) = true then (i : Int) / 9 else 0) ∧ (if decide ((i : Int) / 9 < bankN G) = true then (i : Int) / 9 else 0) ≤ bankN G - 1
  rw [hu']
  have h3 : (i : Int) / 9 < bankN G := by simpa using hu'
  simp only [if_true]
  omega
theorem atY_eq {G : Geo} {T : Tim} {D : RdyD} {C : Cmd} {m : Int} (h : maxY G T C D.last D.last.length = m) (h2 : (C.k == 1 && decide (D.acts.length = 4)) = false) : atY G T D C = m := by unfold atY; rw [if_neg (by rw [h2]; decide)]; exact h
theorem atY_eq4 {G : Geo} {T : Tim} {D : RdyD} {C : Cmd} {m : Int} (h : maxY G T C D.last D.last.length = m) (h2 : (C.k == 1 && decide (D.acts.length = 4)) = true) : atY G T D C = mx m (D.acts.getD 0 0 + T.t5) := by unfold atY; rw [if_pos h2, h]
end Go.Proofs.Ytggjheapjklhgaa
