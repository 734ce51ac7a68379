/- ReadyAt: plain law. -/
import Derived.Test.YtggjheapjklhgaaTfP
import Derived.Test.YtggjheapjklhgaaRyA
import Derived.Test.YtggjheapjklhgaaElP
import Derived.Test.YtggjheapjklhgaaRyO
namespace Go.Proofs.Ytggjheapjklhgaa
open Go.RowKit
def stepY (G : Geo) (T : Tim) (C : Cmd) (i : Nat) (a n : Int) : Int := if n < 0 then a else mx a (n + gapF G T (cmdAt G i) C)
def maxY (G : Geo) (T : Tim) (C : Cmd) (xs : List Int) : Nat → Int
  | 0 => 0
  | k + 1 => stepY G T C k (maxY G T C xs k) (xs.getD k 0)
/-- The least time by the summary, without the limit. -/
def atY (G : Geo) (T : Tim) (D : RdyD) (C : Cmd) : Int :=
  if (C.k == 1 && decide (D.acts.length = 4)) = true then mx (maxY G T C D.last D.last.length) (D.acts.getD 0 0 + T.t5) else maxY G T C D.last D.last.length
def readyAt (G : Geo) (T : Tim) (D : RdyD) (C : Cmd) : Int :=
  if (timOk T && (readyOk G D && cmdOk G C)) = true then (if 1000000 < atY G T D C then -1 else atY G T D C) else -1
theorem readyAt_no {G : Geo} {T : Tim} {D : RdyD} {C : Cmd} (h : (timOk T && (readyOk G D && cmdOk G C)) = false) : readyAt G T D C = -1 := by unfold readyAt; rw [if_neg (by simp [h])]
theorem readyAt_yes {G : Geo} {T : Tim} {D : RdyD} {C : Cmd} (h1 : timOk T = true) (h2 : readyOk G D = true) (h3 : cmdOk G C = true) : readyAt G T D C = if 1000000 < atY G T D C then -1 else atY G T D C := by unfold readyAt; rw [if_pos (by simp [h1, h2, h3])]
/-- What a valid summary says of its cells. -/
structure RyB1 (G : Geo) (D : RdyD) : Prop where
  geo : gOk G = true
  last : ∀ (i : Nat) (x : Int), D.last[i]? = some x → (-1 ≤ x ∧ x ≤ 1000000) ∧ (x = -1 ∨ usedB G i = true)
  acts : ∀ (i : Nat) (x : Int), D.acts[i]? = some x → 0 ≤ x ∧ x ≤ 1000000
theorem RyB1.of {G : Geo} {D : RdyD} (h : readyOk G D = true) : RyB1 G D := by
  unfold readyOk at h
  simp only [Bool.and_eq_true] at h
  obtain ⟨⟨⟨⟨hg, _⟩, _⟩, hl⟩, ha⟩ := h
  refine ⟨hg, fun i x hx => ?_, fun i x hx => ?_⟩
  · have hi := (List.getElem?_eq_some_iff.1 hx).1
    unfold allTo at hl
    have h1 := List.all_eq_true.1 hl i (List.mem_range.2 hi)
    unfold okL at h1
    rw [getD_of hx] at h1
    simp only [Bool.and_eq_true, Bool.or_eq_true, beq_iff_eq] at h1
    exact ⟨inB_iff.1 h1.1, h1.2.symm⟩
  · have hi := (List.getElem?_eq_some_iff.1 hx).1
    unfold allTo at ha
    have h1 := List.all_eq_true.1 ha i (List.mem_range.2 hi)
    unfold okA at h1
    rw [getD_of hx] at h1
    simp only [Bool.and_eq_true] at h1
    exact inB_iff.1 h1.1
theorem maxY_bd {G : Geo} {T : Tim} {C : Cmd} {D : RdyD} (ht : timOk T = true) (h : RyB1 G D) : ∀ k, k ≤ D.last.length → 0 ≤ maxY G T C D.last k ∧ maxY G T C D.last k ≤ 1000128
  | 0, _ => by unfold maxY; omega
  | k + 1, hk => by
    have ih := maxY_bd (C := C) ht h k (by omega)
    have hx : D.last[k]? = some (D.last[k]'(by omega)) := List.getElem?_eq_getElem _
    have hb := (h.last k _ hx).1
    have hg := gapF_bd ht G (cmdAt G k) C
    unfold maxY stepY
    rw [getD_of hx]
    split
    · exact ih
    · have h4 := mx_le (maxY G T C D.last k) (D.last[k] + gapF G T (cmdAt G k) C)
      have h5 := mx_eq (maxY G T C D.last k) (D.last[k] + gapF G T (cmdAt G k) C)
      omega
/-- The command that is kept at a used place. -/
theorem cmdAt_used {G : Geo} {i : Nat} (h : usedB G i = true) : cmdAt G i = ⟨(i : Int) % 9 + 1, if decide ((i : Int) % 9 + 1 ≤ 5) = true then (i : Int) / 9 else 0, 0, 0⟩ ∧ bkOk G (cmdAt G i) := by
  unfold usedB at h
  have h1 : usesB ((i : Int) % 9 + 1) = decide ((i : Int) % 9 + 1 ≤ 5) := usesB_le (by omega)
  rw [h1] at h
  have h2 : decide ((i : Int) / 9 < bankN G) = decide ((i : Int) % 9 + 1 ≤ 5) := by simpa using h
  refine ⟨by unfold cmdAt; rw [h2], ⟨by show 1 ≤ (i : Int) % 9 + 1 ∧ (i : Int) % 9 + 1 ≤ 9; omega, fun hu => ?_⟩⟩
  have hu' : usesB ((i : Int) % 9 + 1) = true := hu
  rw [h1, ← h2] at hu'
  show 0 ≤ (if decide ((i : Int) / 9 < bankN G) = true then (i : Int) / 9 else 0) ∧ (if decide ((i : Int) / 9 < bankN G) = true then (i : Int) / 9 else 0) ≤ bankN G - 1
  rw [hu']
  have h3 : (i : Int) / 9 < bankN G := by simpa using hu'
  simp only [if_true]
  omega
theorem atY_eq {G : Geo} {T : Tim} {D : RdyD} {C : Cmd} {m : Int} (h : maxY G T C D.last D.last.length = m) (h2 : (C.k == 1 && decide (D.acts.length = 4)) = false) : atY G T D C = m := by unfold atY; rw [if_neg (by rw [h2]; decide)]; exact h
theorem atY_eq4 {G : Geo} {T : Tim} {D : RdyD} {C : Cmd} {m : Int} (h : maxY G T C D.last D.last.length = m) (h2 : (C.k == 1 && decide (D.acts.length = 4)) = true) : atY G T D C = mx m (D.acts.getD 0 0 + T.t5) := by unfold atY; rw [if_pos h2, h]
end Go.Proofs.Ytggjheapjklhgaa

/- Plain law: the earliest time by the summary of a trace is that by the trace. -/
namespace Go.Proofs.Ytggjheapjklhgaa
open Go.RowKit
theorem TrOk.at_ {G : Geo} {T : Tim} {es : List Ev} {D : RkD} (h : TrOk G T es D) {k : Nat} {e : Ev} (he : es[k]? = some e) : ∃ D', chk G T (es.take k) D' e = 0 := by
  obtain ⟨D', _, _, h3⟩ := h.take k
  have h1 := h.pre (k + 1)
  rw [take_snoc he, h3] at h1
  refine ⟨D', ?_⟩
  unfold faultFrom at h1
  split at h1
  · assumption
  · rename_i hc
    exact absurd (congrArg Prod.fst h1) hc
theorem TrOk.later {G : Geo} {T : Tim} {es : List Ev} {D : RkD} (h : TrOk G T es D) {k : Nat} {e : Ev} (he : es[k]? = some e) : cmdOk G e.c = true ∧ (0 ≤ e.t ∧ e.t ≤ 1000000) ∧ ∀ x ∈ es.take k, x.t < e.t := by
  obtain ⟨D', hc⟩ := h.at_ he
  obtain ⟨h1, _, h3, _⟩ := chk_zero hc
  unfold formB at h1
  simp only [Bool.and_eq_true] at h1
  refine ⟨h1.1, inB_iff.1 h1.2.1, fun x hx => ?_⟩
  have h3' : ¬ e.t < earl G T (es.take k) e.c := by simpa using h3
  have : x.t < earl G T (es.take k) e.c := (earlF_lt x.t (es.take k) 0).2 (.inr ⟨x, hx, by have := gapF_bd h.tim G x.c e.c; omega⟩)
  omega
theorem lastPl_parts {G : Geo} {C : Cmd} (h : cmdOk G C = true) : (lastPl G C) / 9 = plB G C ∧ lastPl G C % 9 + 1 = C.k ∧ 0 ≤ lastPl G C ∧ lastPl G C < 9 * (bankN G + 1) := by
  obtain ⟨hg, hk, hb, _⟩ := cmdOk_parts h
  have hbd := bankN_bd G
  have hp : 0 ≤ plB G C ∧ plB G C ≤ bankN G := by
    unfold plB
    split
    · rename_i hu; have := hb.1 hu; omega
    · omega
  unfold lastPl
  omega
theorem used_place {G : Geo} {C : Cmd} (h : cmdOk G C = true) : usedB G (lastPl G C) = true := by
  obtain ⟨h1, h2, _⟩ := lastPl_parts h
  obtain ⟨hg, hk, hb, _⟩ := cmdOk_parts h
  unfold usedB
  rw [h1, h2]
  cases hu : usesB C.k
  · have : plB G C = bankN G := by unfold plB; rw [hu]; rfl
    simp [this]
  · have := hb.1 hu
    have e : plB G C = C.b := by unfold plB; rw [hu]; rfl
    simp [e]; omega
theorem cmdAt_place {G : Geo} {C : Cmd} (h : cmdOk G C = true) : cmdAt G (lastPl G C) = ⟨C.k, C.b, 0, 0⟩ := by
  obtain ⟨h1, h2, _⟩ := lastPl_parts h
  obtain ⟨hg, hk, hb, _⟩ := cmdOk_parts h
  unfold cmdAt
  rw [h1, h2]
  cases hu : usesB C.k
  · have e : plB G C = bankN G := by unfold plB; rw [hu]; rfl
    have := hb.2 hu
    simp [e, this]
  · have := hb.1 hu
    have e : plB G C = C.b := by unfold plB; rw [hu]; rfl
    have h3 : decide (C.b < bankN G) = true := by simp; omega
    rw [e, h3]
    simp
theorem gap_place {G : Geo} {T : Tim} {A C : Cmd} (h : cmdOk G A = true) : gapF G T (cmdAt G (lastPl G A)) C = gapF G T A C := by
  rw [cmdAt_place h]; rfl
/-- What the summary holds of a trace. -/
structure YInv (G : Geo) (es : List Ev) (Y : RdyD) : Prop where
  len : Y.last.length = readyLen G
  acts : Y.acts = last4 (actsOf es)
  asc : (actsOf es).Pairwise (· < ·)
  cell : ∀ i, i < Y.last.length → (Y.last.getD i 0 = -1 ∧ ∀ e ∈ es, (lastPl G e.c).toNat ≠ i) ∨ (∃ e ∈ es, (lastPl G e.c).toNat = i ∧ Y.last.getD i 0 = e.t ∧ ∀ x ∈ es, (lastPl G x.c).toNat = i → x.t ≤ e.t)
theorem YInv.ok {G : Geo} {es : List Ev} {Y : RdyD} (h : YInv G es Y) (hg : gOk G = true) (hc : ∀ e ∈ es, cmdOk G e.c = true ∧ 0 ≤ e.t ∧ e.t ≤ 1000000) : readyOk G Y = true := by
  have hl := (readyLen_bd G).2
  refine readyOk_yes hg (by unfold lenY; rw [h.len, hl]; simp) (by rw [h.acts]; simpa using last4_len _) ?_ ?_
  · unfold allTo
    rw [List.all_eq_true]
    intro i hi
    have hi' := List.mem_range.1 hi
    unfold okL
    rcases h.cell i hi' with ⟨h1, _⟩ | ⟨e, he, h1, h2, _⟩
    · rw [h1]; simp [inB]
    · obtain ⟨c1, c2, c3⟩ := hc e he
      have hp := (lastPl_parts c1).2.2.1
      have hu := used_place c1
      have : (lastPl G e.c) = (i : Int) := by omega
      rw [this] at hu
      rw [h2, hu]
      simp [inB_iff]; omega
  · unfold allTo
    rw [List.all_eq_true]
    intro i hi
    have hi' := List.mem_range.1 hi
    have hpw : (Y.acts).Pairwise (· < ·) := by rw [h.acts]; exact h.asc.sublist (List.drop_sublist _ _)
    have hm : ∀ x ∈ Y.acts, 0 ≤ x ∧ x ≤ 1000000 := by
      intro x hx
      rw [h.acts] at hx
      exact actsOf_times (fun e he => (hc e he).2) x (List.mem_of_mem_drop hx)
    have hx : Y.acts[i]? = some (Y.acts[i]'hi') := List.getElem?_eq_getElem _
    unfold okA
    rw [getD_of hx]
    simp only [Bool.and_eq_true, Bool.or_eq_true, beq_iff_eq, inB_iff, decide_eq_true_eq]
    refine ⟨hm _ (List.getElem_mem _), ?_⟩
    by_cases h0 : i = 0
    · exact .inl h0
    · right
      have hy : Y.acts[i - 1]? = some (Y.acts[i - 1]'(by omega)) := List.getElem?_eq_getElem _
      rw [getD_of hy]
      exact List.pairwise_iff_getElem.1 hpw (i - 1) i (by omega) hi' (by omega)
theorem YInv.start {G : Geo} (hg : gOk G = true) : YInv G [] (readyNew G) := by
  unfold readyNew
  rw [if_pos hg]
  refine ⟨by simp, rfl, List.Pairwise.nil, fun i hi => .inl ⟨?_, fun e he => by cases he⟩⟩
  simp only [List.length_replicate] at hi
  rw [List.getD_eq_getElem?_getD, List.getElem?_replicate, if_pos hi]
  rfl
theorem last4_snoc (xs : List Int) (x : Int) : last4 (last4 xs ++ [x]) = last4 (xs ++ [x]) := by
  unfold last4
  rw [← List.drop_append_of_le_length (by omega : xs.length - 4 ≤ xs.length), List.drop_drop]
  congr 1
  simp
  omega
theorem YInv.step {G : Geo} {es : List Ev} {Y : RdyD} (h : YInv G es Y) (hg : gOk G = true) (hc : ∀ e ∈ es, cmdOk G e.c = true ∧ 0 ≤ e.t ∧ e.t ≤ 1000000) {e : Ev} (he : cmdOk G e.c = true ∧ 0 ≤ e.t ∧ e.t ≤ 1000000) (hlt : ∀ x ∈ es, x.t < e.t) : YInv G (es ++ [e]) (readyAfter G Y e) := by
  have hlt2 : ∀ x ∈ actsOf es, x < e.t := by
    clear h hc
    induction es with
    | nil => intro x hx; cases hx
    | cons y ys ih =>
      intro x hx
      have ih' := ih (fun z hz => hlt z (List.mem_cons_of_mem _ hz))
      unfold actsOf at hx
      split at hx
      · rcases List.mem_cons.1 hx with rfl | hx
        · exact hlt y List.mem_cons_self
        · exact ih' x hx
      · exact ih' x hx
  have hgo : goY G Y e = true := by
    refine goY_yes (h.ok hg hc) he.1 (inB_iff.2 he.2) ?_
    unfold lateY
    cases hk : (e.c.k == 1)
    · rfl
    · cases h0 : decide (0 < Y.acts.length)
      · rfl
      · have h0' : 0 < Y.acts.length := by simpa using h0
        have hx : Y.acts[Y.acts.length - 1]? = some (Y.acts[Y.acts.length - 1]'(by omega)) := List.getElem?_eq_getElem _
        rw [getD_of hx]
        have hm : ∀ x ∈ Y.acts, x < e.t := by
          intro x hx
          rw [h.acts] at hx
          exact hlt2 x (List.mem_of_mem_drop hx)
        have := hm _ (List.getElem_mem (show Y.acts.length - 1 < Y.acts.length by omega))
        simp only [Bool.true_and, decide_eq_false_iff_not]
        omega
  rw [readyAfter_yes hgo]
  obtain ⟨_, _, p0, p1⟩ := lastPl_parts he.1
  have hrl := (readyLen_bd G).2
  have hpl : (lastPl G e.c).toNat < Y.last.length := by rw [h.len]; omega
  have ha : actsOf (es ++ [e]) = if (e.c.k == 1) = true then actsOf es ++ [e.t] else actsOf es := by
    rw [actsOf_append]
    simp only [actsOf]
    split <;> simp
  refine ⟨by simp [doY, h.len], ?_, ?_, fun i hi => ?_⟩
  · rw [ha]
    unfold doY
    simp only
    split
    · rw [h.acts, last4_snoc]
    · exact h.acts
  · rw [ha]
    split
    · rw [List.pairwise_append]
      exact ⟨h.asc, List.pairwise_singleton _ _, fun x hx y hy => by simp only [List.mem_singleton] at hy; subst hy; exact hlt2 x hx⟩
    · exact h.asc
  · have hi' : i < Y.last.length := by simpa [doY] using hi
    by_cases hii : (lastPl G e.c).toNat = i
    · right
      refine ⟨e, by simp, hii, ?_, fun x hx _ => ?_⟩
      · unfold doY
        simp only
        rw [hii, List.getD_eq_getElem?_getD, List.getElem?_set_self hi']
        rfl
      · rcases List.mem_append.1 hx with h1 | h1
        · have := hlt x h1; omega
        · simp only [List.mem_singleton] at h1; subst h1; omega
    · have hsame : (doY G Y e).last.getD i 0 = Y.last.getD i 0 := by
        unfold doY
        simp only
        rw [List.getD_eq_getElem?_getD, List.getElem?_set_ne hii, List.getD_eq_getElem?_getD]
      rw [hsame]
      rcases h.cell i hi' with ⟨h1, h2⟩ | ⟨y, hy, h1, h2, h3⟩
      · left
        refine ⟨h1, fun x hx => ?_⟩
        rcases List.mem_append.1 hx with h4 | h4
        · exact h2 x h4
        · simp only [List.mem_singleton] at h4; subst h4; exact hii
      · right
        refine ⟨y, List.mem_append_left _ hy, h1, h2, fun x hx hxi => ?_⟩
        rcases List.mem_append.1 hx with h4 | h4
        · exact h3 x h4 hxi
        · simp only [List.mem_singleton] at h4; subst h4; exact absurd hxi hii
theorem TrOk.yinv {G : Geo} {T : Tim} {es : List Ev} {D : RkD} (h : TrOk G T es D) : ∀ k, k ≤ es.length → YInv G (es.take k) (readyOf G (es.take k))
  | 0, _ => by rw [List.take_zero]; exact YInv.start h.geo
  | k + 1, hk => by
    have he : es[k]? = some (es[k]'(by omega)) := List.getElem?_eq_getElem _
    have hl := h.later he
    rw [readyOf_step he, take_snoc he]
    refine (h.yinv k (by omega)).step h.geo (fun x hx => ?_) ⟨hl.1, hl.2.1⟩ hl.2.2
    have hx' := List.mem_of_mem_take hx
    obtain ⟨j, hj, rfl⟩ := List.getElem_of_mem hx'
    have hj' : es[j]? = some es[j] := List.getElem?_eq_getElem _
    have := h.later hj'
    exact ⟨this.1, this.2.1⟩
theorem TrOk.all_ok {G : Geo} {T : Tim} {es : List Ev} {D : RkD} (h : TrOk G T es D) : ∀ e ∈ es, cmdOk G e.c = true ∧ 0 ≤ e.t ∧ e.t ≤ 1000000 := by
  intro e he
  obtain ⟨j, hj, rfl⟩ := List.getElem_of_mem he
  have hj' : es[j]? = some es[j] := List.getElem?_eq_getElem _
  have := h.later hj'
  exact ⟨this.1, this.2.1⟩
theorem TrOk.yinv_all {G : Geo} {T : Tim} {es : List Ev} {D : RkD} (h : TrOk G T es D) : YInv G es (readyOf G es) := by
  have := h.yinv es.length (Nat.le_refl _)
  rwa [List.take_length] at this
/-- The summary of a trace is valid. -/
theorem TrOk.ready {G : Geo} {T : Tim} {es : List Ev} {D : RkD} (h : TrOk G T es D) : readyOk G (readyOf G es) = true := h.yinv_all.ok h.geo h.all_ok
theorem maxY_lt {G : Geo} {T : Tim} {C : Cmd} {xs : List Int} (v : Int) : ∀ k, v < maxY G T C xs k ↔ v < 0 ∨ ∃ i, i < k ∧ 0 ≤ xs.getD i 0 ∧ v < xs.getD i 0 + gapF G T (cmdAt G (i : Nat)) C
  | 0 => by
    unfold maxY
    constructor
    · exact fun h => .inl h
    · rintro (h | ⟨i, hi, _⟩)
      · exact h
      · omega
  | k + 1 => by
    have ih := maxY_lt (G := G) (T := T) (C := C) (xs := xs) v k
    unfold maxY stepY
    split
    · rename_i hn
      rw [ih]
      constructor
      · rintro (h | ⟨i, hi, h⟩)
        · exact .inl h
        · exact .inr ⟨i, by omega, h⟩
      · rintro (h | ⟨i, hi, h0, h⟩)
        · exact .inl h
        · refine .inr ⟨i, ?_, h0, h⟩
          have : i ≠ k := by rintro rfl; omega
          omega
    · rename_i hn
      have hm : v < mx (maxY G T C xs k) (xs.getD k 0 + gapF G T (cmdAt G (k : Nat)) C) ↔ v < maxY G T C xs k ∨ v < xs.getD k 0 + gapF G T (cmdAt G (k : Nat)) C := by
        unfold mx; split <;> omega
      rw [hm, ih]
      constructor
      · rintro ((h | ⟨i, hi, h⟩) | h)
        · exact .inl h
        · exact .inr ⟨i, by omega, h⟩
        · exact .inr ⟨k, by omega, by omega, h⟩
      · rintro (h | ⟨i, hi, h0, h⟩)
        · exact .inl (.inl h)
        · by_cases hik : i = k
          · subst hik; exact .inr h
          · exact .inl (.inr ⟨i, by omega, h0, h⟩)
theorem TrOk.maxY {G : Geo} {T : Tim} {es : List Ev} {D : RkD} (h : TrOk G T es D) (C : Cmd) : maxY G T C (readyOf G es).last (readyOf G es).last.length = earl G T es C := by
  have hY := h.yinv_all
  have hok := h.all_ok
  have key : ∀ v, v < Go.Proofs.Ytggjheapjklhgaa.maxY G T C (readyOf G es).last (readyOf G es).last.length ↔ v < earl G T es C := by
    intro v
    rw [maxY_lt]
    unfold earl
    rw [earlF_lt]
    constructor
    · rintro (h1 | ⟨i, hi, h0, h1⟩)
      · exact .inl h1
      · rcases hY.cell i hi with ⟨h2, _⟩ | ⟨e, he, h2, h3, _⟩
        · rw [h2] at h0; omega
        · refine .inr ⟨e, he, ?_⟩
          have c1 := (hok e he).1
          have hp := (lastPl_parts c1).2.2.1
          have hii : (lastPl G e.c) = ((i : Nat) : Int) := by omega
          rw [h3, ← hii, gap_place c1] at h1
          exact h1
    · rintro (h1 | ⟨e, he, h1⟩)
      · exact .inl h1
      · have c1 := (hok e he).1
        have hp := lastPl_parts c1
        have hrl := (readyLen_bd G).2
        have hi : (lastPl G e.c).toNat < (readyOf G es).last.length := by rw [hY.len]; omega
        refine .inr ⟨(lastPl G e.c).toNat, hi, ?_⟩
        rcases hY.cell _ hi with ⟨_, h2⟩ | ⟨y, hy, h2, h3, h4⟩
        · exact absurd rfl (h2 e he)
        · have h5 := h4 e he rfl
          have hii : (((lastPl G e.c).toNat : Nat) : Int) = lastPl G e.c := by omega
          rw [h3, hii, gap_place c1]
          have := (hok y hy).2
          omega
  have h1 := key (earl G T es C)
  have h2 := key (Go.Proofs.Ytggjheapjklhgaa.maxY G T C (readyOf G es).last (readyOf G es).last.length)
  omega
theorem TrOk.atY {G : Geo} {T : Tim} {es : List Ev} {D : RkD} (h : TrOk G T es D) (C : Cmd) : atY G T (readyOf G es) C = earlAll G T es C := by
  have hm := h.maxY C
  have ha := h.yinv_all.acts
  have hb := earl_bd2 (G := G) (C := C) h.tim es 0 h.bd (by omega) (by omega)
  unfold earlAll
  cases hk : (C.k == 1)
  · rw [atY_eq hm (by rw [hk]; rfl)]; rfl
  · rw [if_pos rfl]
    have hlen : (last4 (actsOf es)).length = (actsOf es).length - ((actsOf es).length - 4) := by unfold last4; simp
    by_cases h4 : (actsOf es).length < 4
    · have hf : fawT T es = 0 := fawT_few h4
      rw [atY_eq hm (by rw [ha, hk]; simp; omega), hf]
      unfold mx earl at *
      split <;> omega
    · rw [atY_eq4 hm (by rw [ha, hk]; simp; omega)]
      congr 1
      unfold fawT
      rw [if_neg h4, ha]
      congr 1
      unfold last4
      rw [List.getD_eq_getElem?_getD, List.getElem?_drop, List.getD_eq_getElem?_getD, Nat.add_zero]
/-- The earliest time computed from the summary is that computed from the whole trace. -/
theorem TrOk.readyAt {G : Geo} {T : Tim} {es : List Ev} {D : RkD} (h : TrOk G T es D) (hl : es.length ≤ 1000) {C : Cmd} (ha : allowed G D C = true) : readyAt G T (readyOf G es) C = earliestNext G T es C := by
  rw [readyAt_yes h.tim h.ready (allowed_parts ha).2.1, h.atY C, h.next hl C, if_pos ha]
  have := h.all_bd C
  rw [if_neg (by omega)]
end Go.Proofs.Ytggjheapjklhgaa
