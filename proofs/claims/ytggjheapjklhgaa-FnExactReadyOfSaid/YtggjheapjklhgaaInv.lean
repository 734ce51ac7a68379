/- Regions that draw their order: an invariant that every operation keeps serves every order. -/
import Derived.Test.YtggjheapjklhgaaReg
import Derived.StillTail
namespace Go.Proofs.Ytggjheapjklhgaa
open Go.RowKit

/-- Every operation waits for earlier ones alone. -/
def depsB (l : List Oper) : Bool := (List.range l.length).all fun i => match l[i]? with
  | some o => o.after.all fun e => !Region.binds .any e || decide (e.on < i)
  | none => true
def unlisted (listed : Array Bool) : Nat := (listed.toList.filter fun b => !b).length
theorem filter_set_lt : ∀ (l : List Bool) (i : Nat), l[i]? = some false → ((l.set i true).filter fun b => !b).length + 1 = (l.filter fun b => !b).length
  | [], i, h => by simp at h
  | b :: l, 0, h => by simp at h; subst h; simp
  | b :: l, i + 1, h => by
    have := filter_set_lt l i (by simpa using h)
    cases b <;> simp <;> omega
theorem unlisted_set {listed : Array Bool} {i : Nat} (h : listed.getD i true = false) : unlisted (listed.setIfInBounds i true) + 1 = unlisted listed := by
  have hi : listed.toList[i]? = some false := by
    rcases Nat.lt_or_ge i listed.size with h' | h'
    · simp [h'] at h; simp [h', h]
    · simp [Array.getElem?_eq_none h'] at h
  unfold unlisted
  rw [Array.toList_setIfInBounds]
  exact filter_set_lt _ _ hi
theorem all_listed {l : List Oper} {listed : Array Bool} (hd : depsB l = true) (hs : listed.size = l.length) (hr : Region.ready .any l.toArray listed = []) : ∀ i, i < l.length → listed.getD i false = true := by
  intro i
  induction i using Nat.strongRecOn with
  | _ i ih =>
    intro hi
    cases hl : listed.getD i false with
    | true => rfl
    | false =>
      exfalso
      have hi' : i < listed.size := by omega
      have hm : i ∈ Region.ready .any l.toArray listed := by
        rw [mem_ready]
        refine ⟨?_, l[i], by simp [hi], fun e he hbnd => ?_⟩
        · simp [hi'] at hl ⊢; exact hl
        · unfold depsB at hd
          have h1 := List.all_eq_true.1 hd i (List.mem_range.2 hi)
          rw [List.getElem?_eq_getElem hi] at h1
          simp only at h1
          have h2 := Array.all_eq_true'.1 h1 e he
          have h3 : e.on < i := by simpa [hbnd] using h2
          exact ih e.on h3 (by omega)
      rw [hr] at hm
      cases hm
theorem wpAny_inv {P : Program} {l : List Oper} {Q : Exit → Act → World → Prop} (J : (Nat → Bool) → Act → World → Prop) (hd : depsB l = true)
    (hstep : ∀ (L : Nat → Bool) (a : Act) (w : World) (i : Nat) (o : Oper), J L a w → l[i]? = some o → L i = false → (∀ e ∈ o.after, Region.binds .any e = true → L e.on = true) →
      if Region.wanted o (yielded l.toArray a.tmps) = true then o.wp P a w (J fun j => j == i || L j) Q else J (fun j => j == i || L j) (a.put o.dst undef) w)
    (hend : ∀ (L : Nat → Bool) (a : Act) (w : World), J L a w → (∀ i, i < l.length → L i = true) → Q .normal a w) :
    ∀ (fuel : Nat) (listed : Array Bool) (a : Act) (w : World), listed.size = l.length → unlisted listed ≤ fuel → J (fun i => listed.getD i false) a w → wpAny P .any l.toArray Q fuel listed a w
  | 0, listed, a, w, hs, hf, hJ => by
    have hr : Region.ready .any l.toArray listed = [] := by
      cases h : Region.ready .any l.toArray listed with
      | nil => rfl
      | cons i r =>
        have hi := (mem_ready.1 (show i ∈ Region.ready .any l.toArray listed by rw [h]; simp)).1
        have := unlisted_set hi
        omega
    exact ⟨hr, hend _ a w hJ (all_listed hd hs hr)⟩
  | fuel + 1, listed, a, w, hs, hf, hJ => by
    refine ⟨fun hr => hend _ a w hJ (all_listed hd hs hr), fun i hi => ?_⟩
    obtain ⟨hun, o, ho, hall⟩ := mem_ready.1 hi
    have hi' : i < listed.size := by
      rcases Nat.lt_or_ge i listed.size with h' | h'
      · exact h'
      · simp [Array.getElem?_eq_none h'] at hun
    have hL : (fun j => listed.getD j false) i = false := by simp [hi'] at hun ⊢; exact hun
    have ho' : l[i]? = some o := by simpa using ho
    have key : ∀ a' w', J (fun j => j == i || listed.getD j false) a' w' → wpAny P .any l.toArray Q fuel (listed.setIfInBounds i true) a' w' := by
      intro a' w' h
      refine wpAny_inv J hd hstep hend fuel _ a' w' (by simpa using hs) (by have := unlisted_set hun; omega) ?_
      have e : (fun j => (listed.setIfInBounds i true).getD j false) = fun j => j == i || listed.getD j false := by
        funext j
        by_cases hj : j = i
        · subst hj; simp [hi']
        · rw [getD_set_ne false (fun e => hj e.symm)]; simp [hj]
      rw [e]; exact h
    have hst := hstep _ a w i o hJ ho' hL hall
    unfold wpOp
    rw [ho]
    simp only
    split
    · rename_i hw
      rw [if_pos hw] at hst
      exact .inl (Oper.wp_mono key hst)
    · rename_i hw
      rw [if_neg hw] at hst
      exact key _ _ hst
theorem wp_region_inv {P : Program} {id : Nat} {Q : Exit → Act → World → Prop} {a : Act} {w : World} {l : List Oper} (J : (Nat → Bool) → Act → World → Prop) (hm : P.follows .mixedOrders = true) (hd : depsB l = true)
    (h0 : J (fun _ => false) a w.drew)
    (hstep : ∀ (L : Nat → Bool) (a : Act) (w : World) (i : Nat) (o : Oper), J L a w → l[i]? = some o → L i = false → (∀ e ∈ o.after, Region.binds .any e = true → L e.on = true) →
      if Region.wanted o (yielded l.toArray a.tmps) = true then o.wp P a w (J fun j => j == i || L j) Q else J (fun j => j == i || L j) (a.put o.dst undef) w)
    (hend : ∀ (L : Nat → Bool) (a : Act) (w : World), J L a w → (∀ i, i < l.length → L i = true) → Q .normal a w) : (Code.region id l.toArray true).wp P Q a w := by
  refine wp_region_any hm (wpAny_inv J hd hstep hend _ _ a _ (by simp) ?_ ?_)
  · unfold unlisted
    refine Nat.le_trans (List.length_filter_le _ _) (by simp)
  · have e : (fun i => (Array.replicate l.toArray.size false).getD i false) = fun _ => false := by
      funext i; exact getD_replicate_false _ _
    rw [e]; exact h0
/-- What an operation waits for has come up. -/
theorem dep_of {L : Nat → Bool} {es : Array Edge} (hd : ∀ e ∈ es, Region.binds .any e = true → L e.on = true) (j : Nat) (h : (es.any fun e => Region.binds .any e && e.on == j) = true) : L j = true := by
  obtain ⟨e, he, hb⟩ := Array.any_eq_true'.1 h
  simp only [Bool.and_eq_true, beq_iff_eq] at hb
  rw [← hb.2]
  exact hd e he hb.1

/-- The value of number i replaced. -/
def upd (vs : Nat → Value) (i : Nat) (v : Value) : Nat → Value := fun j => if j = i then v else vs j
/-- Every operation but the last makes memory at most; the last waits for all. 'fr' is the frame, of the values that the operations yield; 'F i' is what is known of value i, in whatever later world. -/
theorem wp_region_grow {P : Program} {id : Nat} {Q : Exit → Act → World → Prop} {a : Act} {w : World} {l : List Oper} (n : Nat) (fr : (Nat → Value) → Act) (F : Nat → Value → World → Prop) (hm : P.follows .mixedOrders = true) (hd : depsB l = true) (hn : l.length = n + 1)
    (hlast : ∀ o, l[n]? = some o → ∀ i, i < n → (o.after.any fun e => Region.binds .any e && e.on == i) = true)
    (hF : ∀ i v w w', F i v w → Below w.heap.size w w' → F i v w') (h0 : ∃ vs, a = fr vs)
    (hstep : ∀ (vs : Nat → Value) (w' : World) (i : Nat) (o : Oper), i < n → l[i]? = some o → Below w.heap.size w w' → (∀ j, (o.after.any fun e => Region.binds .any e && e.on == j) = true → F j (vs j) w') →
      Region.wanted o (yielded l.toArray (fr vs).tmps) = true ∧ o.wp P (fr vs) w' (fun a' w'' => ∃ v, a' = fr (upd vs i v) ∧ F i v w'' ∧ Below w'.heap.size w' w'') Q)
    (hend : ∀ (vs : Nat → Value) (w' : World) (o : Oper), l[n]? = some o → Below w.heap.size w w' → (∀ j, j < n → F j (vs j) w') → Region.wanted o (yielded l.toArray (fr vs).tmps) = true ∧ o.wp P (fr vs) w' (fun a' w'' => Q .normal a' w'') Q) :
    (Code.region id l.toArray true).wp P Q a w := by
  refine wp_region_inv (fun L a w' => (L n = true ∧ (∀ i, i < n → L i = true) ∧ Q .normal a w') ∨ (L n = false ∧ ∃ vs, a = fr vs ∧ Below w.heap.size w w' ∧ ∀ i, i < n → L i = true → F i (vs i) w')) hm hd ?_ ?_ ?_
  · obtain ⟨vs, rfl⟩ := h0
    exact .inr ⟨rfl, vs, rfl, below_ofDrewN _ _ 1, fun i _ h => by cases h⟩
  · intro L a' w' i o hJ ho hL hdep
    have hi : i < n + 1 := by rw [← hn]; exact (List.getElem?_eq_some_iff.1 ho).1
    rcases hJ with ⟨h1, h2, _⟩ | ⟨h1, vs, rfl, hb, hf⟩
    · rcases Nat.lt_or_ge i n with hin | hin
      · rw [h2 i hin] at hL; cases hL
      · have : i = n := by omega
        subst this; rw [h1] at hL; cases hL
    · have dep : ∀ j, (o.after.any fun e => Region.binds .any e && e.on == j) = true → L j = true := fun j hj => dep_of hdep j hj
      rcases Nat.lt_or_ge i n with hin | hin
      · have hlow : ∀ j, (o.after.any fun e => Region.binds .any e && e.on == j) = true → j < n := by
          intro j hj
          obtain ⟨e, he, hb⟩ := Array.any_eq_true'.1 hj
          simp only [Bool.and_eq_true, beq_iff_eq] at hb
          unfold depsB at hd
          have h1 := List.all_eq_true.1 hd i (List.mem_range.2 (by omega))
          rw [ho] at h1
          simp only at h1
          have h2 := Array.all_eq_true'.1 h1 e he
          have h3 : e.on < i := by simpa [hb.1] using h2
          omega
        obtain ⟨hw, hs⟩ := hstep vs w' i o hin ho hb (fun j hj => hf j (hlow j hj) (dep j hj))
        rw [if_pos hw]
        refine Oper.wp_mono (fun a'' w'' hh => ?_) hs
        obtain ⟨v, rfl, hv, hb'⟩ := hh
        refine .inr ⟨by simp [h1]; omega, upd vs i v, rfl, below_step hb hb' (Nat.le_refl _), fun j hj hl => ?_⟩
        by_cases hji : j = i
        · subst hji; simpa [upd] using hv
        · have : L j = true := by simpa [hji] using hl
          have h3 := hF j (vs j) w' w'' (hf j hj this) hb'
          simpa [upd, hji] using h3
      · have hin' : i = n := by omega
        subst hin'
        have hall : ∀ j, j < i → L j = true := fun j hj => dep j (hlast o ho j hj)
        obtain ⟨hw, hs⟩ := hend vs w' o ho hb (fun j hj => hf j hj (hall j hj))
        rw [if_pos hw]
        refine Oper.wp_mono (fun a'' w'' hh => ?_) hs
        exact .inl ⟨by simp, fun j hj => by simp [hall j hj], hh⟩
  · intro L a' w' hJ hall
    rcases hJ with ⟨_, _, h⟩ | ⟨h1, _⟩
    · exact h
    · rw [hall n (by omega)] at h1; cases h1
/-- .. where the last operation waits for some alone, and makes memory at most like the rest. -/
theorem wp_region_grows {P : Program} {id : Nat} {Q : Exit → Act → World → Prop} {a : Act} {w : World} {l : List Oper} (fr : (Nat → Value) → Act) (F : Nat → Value → World → Prop) (hm : P.follows .mixedOrders = true) (hd : depsB l = true)
    (hF : ∀ i v w w', F i v w → Below w.heap.size w w' → F i v w') (h0 : ∃ vs, a = fr vs)
    (hstep : ∀ (vs : Nat → Value) (w' : World) (i : Nat) (o : Oper), l[i]? = some o → Below w.heap.size w w' → (∀ j, (o.after.any fun e => Region.binds .any e && e.on == j) = true → F j (vs j) w') →
      Region.wanted o (yielded l.toArray (fr vs).tmps) = true ∧ o.wp P (fr vs) w' (fun a' w'' => ∃ v, a' = fr (upd vs i v) ∧ F i v w'' ∧ Below w'.heap.size w' w'') Q)
    (hend : ∀ (vs : Nat → Value) (w' : World), Below w.heap.size w w' → (∀ j, j < l.length → F j (vs j) w') → Q .normal (fr vs) w') :
    (Code.region id l.toArray true).wp P Q a w := by
  refine wp_region_inv (fun L a w' => ∃ vs, a = fr vs ∧ Below w.heap.size w w' ∧ ∀ i, L i = true → F i (vs i) w') hm hd ?_ ?_ ?_
  · obtain ⟨vs, rfl⟩ := h0
    exact ⟨vs, rfl, below_ofDrewN _ _ 1, fun i h => by cases h⟩
  · intro L a' w' i o hJ ho hL hdep
    obtain ⟨vs, rfl, hb, hf⟩ := hJ
    obtain ⟨hw, hs⟩ := hstep vs w' i o ho hb (fun j hj => hf j (dep_of hdep j hj))
    rw [if_pos hw]
    refine Oper.wp_mono (fun a'' w'' hh => ?_) hs
    obtain ⟨v, rfl, hv, hb'⟩ := hh
    refine ⟨upd vs i v, rfl, below_step hb hb' (Nat.le_refl _), fun j hl => ?_⟩
    by_cases hji : j = i
    · subst hji; simpa [upd] using hv
    · have : L j = true := by simpa [hji] using hl
      have h3 := hF j (vs j) w' w'' (hf j this) hb'
      simpa [upd, hji] using h3
  · intro L a' w' hJ hall
    obtain ⟨vs, rfl, hb, hf⟩ := hJ
    exact hend vs w' hb (fun j hj => hf j (hall j hj))

theorem wanted_none {o : Oper} {y : Tmp → Option Bool} (h : o.guard = none) : Region.wanted o y = true := by simp [Region.wanted, h]
/-- The frame with a value in each operation's slot. -/
def frOf : List Oper → Nat → (Nat → Value) → Act → Act
  | [], _, _, a => a
  | o :: l, i, vs, a => frOf l (i + 1) vs (a.put o.dst (vs i))
theorem region_grows {P : Program} {id : Nat} {Q : Exit → Act → World → Prop} {a : Act} {w : World} {l : List Oper} (F : Nat → Value → World → Prop) (hm : P.follows .mixedOrders = true) (hd : depsB l = true)
    (hF : ∀ i v w w', F i v w → Below w.heap.size w w' → F i v w') (h0 : ∃ vs, a = frOf l 0 vs a)
    (hstep : ∀ (vs : Nat → Value) (w' : World) (i : Nat) (o : Oper), l[i]? = some o → Below w.heap.size w w' → (∀ j, (o.after.any fun e => Region.binds .any e && e.on == j) = true → F j (vs j) w') →
      Region.wanted o (yielded l.toArray (frOf l 0 vs a).tmps) = true ∧ o.wp P (frOf l 0 vs a) w' (fun a' w'' => ∃ v, a' = frOf l 0 (upd vs i v) a ∧ F i v w'' ∧ Below w'.heap.size w' w'') Q)
    (hend : ∀ (vs : Nat → Value) (w' : World), Below w.heap.size w w' → (∀ j, j < l.length → F j (vs j) w') → Q .normal (frOf l 0 vs a) w') :
    (Code.region id l.toArray true).wp P Q a w := wp_region_grows (fun vs => frOf l 0 vs a) F hm hd hF h0 hstep hend
theorem region_grow {P : Program} {id : Nat} {Q : Exit → Act → World → Prop} {a : Act} {w : World} {l : List Oper} (n : Nat) (F : Nat → Value → World → Prop) (hm : P.follows .mixedOrders = true) (hd : depsB l = true) (hn : l.length = n + 1)
    (hlast : ∀ o, l[n]? = some o → ∀ i, i < n → (o.after.any fun e => Region.binds .any e && e.on == i) = true)
    (hF : ∀ i v w w', F i v w → Below w.heap.size w w' → F i v w') (h0 : ∃ vs, a = frOf (l.take n) 0 vs a)
    (hstep : ∀ (vs : Nat → Value) (w' : World) (i : Nat) (o : Oper), i < n → l[i]? = some o → Below w.heap.size w w' → (∀ j, (o.after.any fun e => Region.binds .any e && e.on == j) = true → F j (vs j) w') →
      Region.wanted o (yielded l.toArray (frOf (l.take n) 0 vs a).tmps) = true ∧ o.wp P (frOf (l.take n) 0 vs a) w' (fun a' w'' => ∃ v, a' = frOf (l.take n) 0 (upd vs i v) a ∧ F i v w'' ∧ Below w'.heap.size w' w'') Q)
    (hend : ∀ (vs : Nat → Value) (w' : World) (o : Oper), l[n]? = some o → Below w.heap.size w w' → (∀ j, j < n → F j (vs j) w') → Region.wanted o (yielded l.toArray (frOf (l.take n) 0 vs a).tmps) = true ∧ o.wp P (frOf (l.take n) 0 vs a) w' (fun a' w'' => Q .normal a' w'') Q) :
    (Code.region id l.toArray true).wp P Q a w := wp_region_grow n (fun vs => frOf (l.take n) 0 vs a) F hm hd hn hlast hF h0 hstep hend
theorem grows_of {P : Program} {id : Nat} {Q : Exit → Act → World → Prop} {a : Act} {w : World} {l : List Oper} {fr : (Nat → Value) → Act} (F : Nat → Value → World → Prop) (hm : P.follows .mixedOrders = true) (hd : depsB l = true)
    (hfr : ∀ vs, frOf l 0 vs a = fr vs) (h0 : ∃ vs, a = fr vs) (hF : ∀ i v w w', F i v w → Below w.heap.size w w' → F i v w')
    (hstep : ∀ (vs : Nat → Value) (w' : World) (i : Nat) (o : Oper), l[i]? = some o → Below w.heap.size w w' → (∀ j, (o.after.any fun e => Region.binds .any e && e.on == j) = true → F j (vs j) w') →
      Region.wanted o (yielded l.toArray (fr vs).tmps) = true ∧ o.wp P (fr vs) w' (fun a' w'' => ∃ v, a' = fr (upd vs i v) ∧ F i v w'' ∧ Below w'.heap.size w' w'') Q)
    (hend : ∀ (vs : Nat → Value) (w' : World), Below w.heap.size w w' → (∀ j, j < l.length → F j (vs j) w') → Q .normal (fr vs) w') :
    (Code.region id l.toArray true).wp P Q a w :=
  have _ := hfr
  wp_region_grows fr F hm hd hF h0 hstep hend
theorem grow_of {P : Program} {id : Nat} {Q : Exit → Act → World → Prop} {a : Act} {w : World} {l : List Oper} (n : Nat) {fr : (Nat → Value) → Act} (F : Nat → Value → World → Prop) (hm : P.follows .mixedOrders = true) (hd : depsB l = true) (hn : l.length = n + 1)
    (hlast : ∀ o, l[n]? = some o → ∀ i, i < n → (o.after.any fun e => Region.binds .any e && e.on == i) = true)
    (hfr : ∀ vs, frOf (l.take n) 0 vs a = fr vs) (h0 : ∃ vs, a = fr vs) (hF : ∀ i v w w', F i v w → Below w.heap.size w w' → F i v w')
    (hstep : ∀ (vs : Nat → Value) (w' : World) (i : Nat) (o : Oper), i < n → l[i]? = some o → Below w.heap.size w w' → (∀ j, (o.after.any fun e => Region.binds .any e && e.on == j) = true → F j (vs j) w') →
      Region.wanted o (yielded l.toArray (fr vs).tmps) = true ∧ o.wp P (fr vs) w' (fun a' w'' => ∃ v, a' = fr (upd vs i v) ∧ F i v w'' ∧ Below w'.heap.size w' w'') Q)
    (hend : ∀ (vs : Nat → Value) (w' : World) (o : Oper), l[n]? = some o → Below w.heap.size w w' → (∀ j, j < n → F j (vs j) w') → Region.wanted o (yielded l.toArray (fr vs).tmps) = true ∧ o.wp P (fr vs) w' (fun a' w'' => Q .normal a' w'') Q) :
    (Code.region id l.toArray true).wp P Q a w :=
  have _ := hfr
  wp_region_grow n fr F hm hd hn hlast hF h0 hstep hend
theorem calls_args {P : Program} {f : FuncId} {us bs : Array Value} {w : World} {R : Ending → World → Prop} (h : us = bs) (c : Calls P f bs w R) : Calls P f us w R := h ▸ c
end Go.Proofs.Ytggjheapjklhgaa
