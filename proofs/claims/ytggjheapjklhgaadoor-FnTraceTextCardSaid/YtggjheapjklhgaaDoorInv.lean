/- Regions that draw their order: an invariant that every operation keeps serves every order. -/
import Derived.Test.YtggjheapjklhgaaDoorMem
import Derived.StillTail
import Derived.Test.YtggjheapjklhgaaDoorRec
namespace Go.Proofs.YtggjheapjklhgaaDoor
open Go.RowKit

/-- Every operation waits for earlier ones alone. -/
def depsB (l : List Oper) : Bool := (List.range l.length).all fun i => match l[i]? with
  | some o => o.after.all fun e => !Region.binds .any e || decide (e.on < i)
  | none => true
def unlisted (listed : Array Bool) : Nat := (listed.toList.filter fun b => !b).length
theorem filter_set_lt : ∀ (l : List Bool) (i : Nat), l[i]? = some false → ((l.set i true).filter fun b => !b).length + 1 = (l.filter fun b => !b).length
  | [], i, h => by simp at h
  | b :: l, 0, h => by simp at h; subst h; simp
  | b :: l, i + 1, h => by
    have := filter_set_lt l i (by simpa using h)
    cases b <;> simp <;> omega
theorem unlisted_set {listed : Array Bool} {i : Nat} (h : listed.getD i true = false) : unlisted (listed.setIfInBounds i true) + 1 = unlisted listed := by
  have hi : listed.toList[i]? = some false := by
    rcases Nat.lt_or_ge i listed.size with h' | h'
    · simp [h'] at h; simp [h', h]
    · simp [Array.getElem?_eq_none h'] at h
  unfold unlisted
  rw [Array.toList_setIfInBounds]
  exact filter_set_lt _ _ hi
theorem all_listed {l : List Oper} {listed : Array Bool} (hd : depsB l = true) (hs : listed.size = l.length) (hr : Region.ready .any l.toArray listed = []) : ∀ i, i < l.length → listed.getD i false = true := by
  intro i
  induction i using Nat.strongRecOn with
  | _ i ih =>
    intro hi
    cases hl : listed.getD i false with
    | true => rfl
    | false =>
      exfalso
      have hi' : i < listed.size := by omega
      have hm : i ∈ Region.ready .any l.toArray listed := by
        rw [mem_ready]
        refine ⟨?_, l[i], by simp [hi], fun e he hbnd => ?_⟩
        · simp [hi'] at hl ⊢; exact hl
        · unfold depsB at hd
          have h1 := List.all_eq_true.1 hd i (List.mem_range.2 hi)
          rw [List.getElem?_eq_getElem hi] at h1
          simp only at h1
          have h2 := Array.all_eq_true'.1 h1 e he
          have h3 : e.on < i := by simpa [hbnd] using h2
          exact ih e.on h3 (by omega)
      rw [hr] at hm
      cases hm
theorem wpAny_inv {P : Program} {l : List Oper} {Q : Exit → Act → World → Prop} (J : (Nat → Bool) → Act → World → Prop) (hd : depsB l = true)
    (hstep : ∀ (L : Nat → Bool) (a : Act) (w : World) (i : Nat) (o : Oper), J L a w → l[i]? = some o → L i = false → (∀ e ∈ o.after, Region.binds .any e = true → L e.on = true) →
      if Region.wanted o (yielded l.toArray a.tmps) = true then o.wp P a w (J fun j => j == i || L j) Q else J (fun j => j == i || L j) (a.put o.dst undef) w)
    (hend : ∀ (L : Nat → Bool) (a : Act) (w : World), J L a w → (∀ i, i < l.length → L i = true) → Q .normal a w) :
    ∀ (fuel : Nat) (listed : Array Bool) (a : Act) (w : World), listed.size = l.length → unlisted listed ≤ fuel → J (fun i => listed.getD i false) a w → wpAny P .any l.toArray Q fuel listed a w
  | 0, listed, a, w, hs, hf, hJ => by
    have hr : Region.ready .any l.toArray listed = [] := by
      cases h : Region.ready .any l.toArray listed with
      | nil => rfl
      | cons i r =>
        have hi := (mem_ready.1 (show i ∈ Region.ready .any l.toArray listed by rw [h]; simp)).1
        have := unlisted_set hi
        omega
    exact ⟨hr, hend _ a w hJ (all_listed hd hs hr)⟩
  | fuel + 1, listed, a, w, hs, hf, hJ => by
    refine ⟨fun hr => hend _ a w hJ (all_listed hd hs hr), fun i hi => ?_⟩
    obtain ⟨hun, o, ho, hall⟩ := mem_ready.1 hi
    have hi' : i < listed.size := by
      rcases Nat.lt_or_ge i listed.size with h' | h'
      · exact h'
      · simp [Array.getElem?_eq_none h'] at hun
    have hL : (fun j => listed.getD j false) i = false := by simp [hi'] at hun ⊢; exact hun
    have ho' : l[i]? = some o := by simpa using ho
    have key : ∀ a' w', J (fun j => j == i || listed.getD j false) a' w' → wpAny P .any l.toArray Q fuel (listed.setIfInBounds i true) a' w' := by
      intro a' w' h
      refine wpAny_inv J hd hstep hend fuel _ a' w' (by simpa using hs) (by have := unlisted_set hun; omega) ?_
      have e : (fun j => (listed.setIfInBounds i true).getD j false) = fun j => j == i || listed.getD j false := by
        funext j
        by_cases hj : j = i
        · subst hj; simp [hi']
        · rw [getD_set_ne false (fun e => hj e.symm)]; simp [hj]
      rw [e]; exact h
    have hst := hstep _ a w i o hJ ho' hL hall
    unfold wpOp
    rw [ho]
    simp only
    split
    · rename_i hw
      rw [if_pos hw] at hst
      exact .inl (Oper.wp_mono key hst)
    · rename_i hw
      rw [if_neg hw] at hst
      exact key _ _ hst
theorem wp_region_inv {P : Program} {id : Nat} {Q : Exit → Act → World → Prop} {a : Act} {w : World} {l : List Oper} (J : (Nat → Bool) → Act → World → Prop) (hm : P.follows .mixedOrders = true) (hd : depsB l = true)
    (h0 : J (fun _ => false) a w.drew)
    (hstep : ∀ (L : Nat → Bool) (a : Act) (w : World) (i : Nat) (o : Oper), J L a w → l[i]? = some o → L i = false → (∀ e ∈ o.after, Region.binds .any e = true → L e.on = true) →
      if Region.wanted o (yielded l.toArray a.tmps) = true then o.wp P a w (J fun j => j == i || L j) Q else J (fun j => j == i || L j) (a.put o.dst undef) w)
    (hend : ∀ (L : Nat → Bool) (a : Act) (w : World), J L a w → (∀ i, i < l.length → L i = true) → Q .normal a w) : (Code.region id l.toArray true).wp P Q a w := by
  refine wp_region_any hm (wpAny_inv J hd hstep hend _ _ a _ (by simp) ?_ ?_)
  · unfold unlisted
    refine Nat.le_trans (List.length_filter_le _ _) (by simp)
  · have e : (fun i => (Array.replicate l.toArray.size false).getD i false) = fun _ => false := by
      funext i; exact getD_replicate_false _ _
    rw [e]; exact h0
/-- What an operation waits for has come up. -/
theorem dep_of {L : Nat → Bool} {es : Array Edge} (hd : ∀ e ∈ es, Region.binds .any e = true → L e.on = true) (j : Nat) (h : (es.any fun e => Region.binds .any e && e.on == j) = true) : L j = true := by
  obtain ⟨e, he, hb⟩ := Array.any_eq_true'.1 h
  simp only [Bool.and_eq_true, beq_iff_eq] at hb
  rw [← hb.2]
  exact hd e he hb.1

/-- The value of number i replaced. -/
def upd (vs : Nat → Value) (i : Nat) (v : Value) : Nat → Value := fun j => if j = i then v else vs j
/-- Every operation but the last makes memory at most; the last waits for all. 'fr' is the frame, of the values that the operations yield; 'F i' is what is known of value i, in whatever later world. -/
theorem wp_region_grow {P : Program} {id : Nat} {Q : Exit → Act → World → Prop} {a : Act} {w : World} {l : List Oper} (n : Nat) (fr : (Nat → Value) → Act) (F : Nat → Value → World → Prop) (hm : P.follows .mixedOrders = true) (hd : depsB l = true) (hn : l.length = n + 1)
    (hlast : ∀ o, l[n]? = some o → ∀ i, i < n → (o.after.any fun e => Region.binds .any e && e.on == i) = true)
    (hF : ∀ i v w w', F i v w → Below w.heap.size w w' → F i v w') (h0 : ∃ vs, a = fr vs)
    (hstep : ∀ (vs : Nat → Value) (w' : World) (i : Nat) (o : Oper), i < n → l[i]? = some o → Below w.heap.size w w' → (∀ j, (o.after.any fun e => Region.binds .any e && e.on == j) = true → F j (vs j) w') →
      Region.wanted o (yielded l.toArray (fr vs).tmps) = true ∧ o.wp P (fr vs) w' (fun a' w'' => ∃ v, a' = fr (upd vs i v) ∧ F i v w'' ∧ Below w'.heap.size w' w'') Q)
    (hend : ∀ (vs : Nat → Value) (w' : World) (o : Oper), l[n]? = some o → Below w.heap.size w w' → (∀ j, j < n → F j (vs j) w') → Region.wanted o (yielded l.toArray (fr vs).tmps) = true ∧ o.wp P (fr vs) w' (fun a' w'' => Q .normal a' w'') Q) :
    (Code.region id l.toArray true).wp P Q a w := by
  refine wp_region_inv (fun L a w' => (L n = true ∧ (∀ i, i < n → L i = true) ∧ Q .normal a w') ∨ (L n = false ∧ ∃ vs, a = fr vs ∧ Below w.heap.size w w' ∧ ∀ i, i < n → L i = true → F i (vs i) w')) hm hd ?_ ?_ ?_
  · obtain ⟨vs, rfl⟩ := h0
    exact .inr ⟨rfl, vs, rfl, below_ofDrewN _ _ 1, fun i _ h => by cases h⟩
  · intro L a' w' i o hJ ho hL hdep
    have hi : i < n + 1 := by rw [← hn]; exact (List.getElem?_eq_some_iff.1 ho).1
    rcases hJ with ⟨h1, h2, _⟩ | ⟨h1, vs, rfl, hb, hf⟩
    · rcases Nat.lt_or_ge i n with hin | hin
      · rw [h2 i hin] at hL; cases hL
      · have : i = n := by omega
        subst this; rw [h1] at hL; cases hL
    · have dep : ∀ j, (o.after.any fun e => Region.binds .any e && e.on == j) = true → L j = true := fun j hj => dep_of hdep j hj
      rcases Nat.lt_or_ge i n with hin | hin
      · have hlow : ∀ j, (o.after.any fun e => Region.binds .any e && e.on == j) = true → j < n := by
          intro j hj
          obtain ⟨e, he, hb⟩ := Array.any_eq_true'.1 hj
          simp only [Bool.and_eq_true, beq_iff_eq] at hb
          unfold depsB at hd
          have h1 := List.all_eq_true.1 hd i (List.mem_range.2 (by omega))
          rw [ho] at h1
          simp only at h1
          have h2 := Array.all_eq_true'.1 h1 e he
          have h3 : e.on < i := by simpa [hb.1] using h2
          omega
        obtain ⟨hw, hs⟩ := hstep vs w' i o hin ho hb (fun j hj => hf j (hlow j hj) (dep j hj))
        rw [if_pos hw]
        refine Oper.wp_mono (fun a'' w'' hh => ?_) hs
        obtain ⟨v, rfl, hv, hb'⟩ := hh
        refine .inr ⟨by simp [h1]; omega, upd vs i v, rfl, below_step hb hb' (Nat.le_refl _), fun j hj hl => ?_⟩
        by_cases hji : j = i
        · subst hji; simpa [upd] using hv
        · have : L j = true := by simpa [hji] using hl
          have h3 := hF j (vs j) w' w'' (hf j hj this) hb'
          simpa [upd, hji] using h3
      · have hin' : i = n := by omega
        subst hin'
        have hall : ∀ j, j < i → L j = true := fun j hj => dep j (hlast o ho j hj)
        obtain ⟨hw, hs⟩ := hend vs w' o ho hb (fun j hj => hf j hj (hall j hj))
        rw [if_pos hw]
        refine Oper.wp_mono (fun a'' w'' hh => ?_) hs
        exact .inl ⟨by simp, fun j hj => by simp [hall j hj], hh⟩
  · intro L a' w' hJ hall
    rcases hJ with ⟨_, _, h⟩ | ⟨h1, _⟩
    · exact h
    · rw [hall n (by omega)] at h1; cases h1
/-- .. where the last operation waits for some alone, and makes memory at most like the rest. -/
theorem wp_region_grows {P : Program} {id : Nat} {Q : Exit → Act → World → Prop} {a : Act} {w : World} {l : List Oper} (fr : (Nat → Value) → Act) (F : Nat → Value → World → Prop) (hm : P.follows .mixedOrders = true) (hd : depsB l = true)
    (hF : ∀ i v w w', F i v w → Below w.heap.size w w' → F i v w') (h0 : ∃ vs, a = fr vs)
    (hstep : ∀ (vs : Nat → Value) (w' : World) (i : Nat) (o : Oper), l[i]? = some o → Below w.heap.size w w' → (∀ j, (o.after.any fun e => Region.binds .any e && e.on == j) = true → F j (vs j) w') →
      Region.wanted o (yielded l.toArray (fr vs).tmps) = true ∧ o.wp P (fr vs) w' (fun a' w'' => ∃ v, a' = fr (upd vs i v) ∧ F i v w'' ∧ Below w'.heap.size w' w'') Q)
    (hend : ∀ (vs : Nat → Value) (w' : World), Below w.heap.size w w' → (∀ j, j < l.length → F j (vs j) w') → Q .normal (fr vs) w') :
    (Code.region id l.toArray true).wp P Q a w := by
  refine wp_region_inv (fun L a w' => ∃ vs, a = fr vs ∧ Below w.heap.size w w' ∧ ∀ i, L i = true → F i (vs i) w') hm hd ?_ ?_ ?_
  · obtain ⟨vs, rfl⟩ := h0
    exact ⟨vs, rfl, below_ofDrewN _ _ 1, fun i h => by cases h⟩
  · intro L a' w' i o hJ ho hL hdep
    obtain ⟨vs, rfl, hb, hf⟩ := hJ
    obtain ⟨hw, hs⟩ := hstep vs w' i o ho hb (fun j hj => hf j (dep_of hdep j hj))
    rw [if_pos hw]
    refine Oper.wp_mono (fun a'' w'' hh => ?_) hs
    obtain ⟨v, rfl, hv, hb'⟩ := hh
    refine ⟨upd vs i v, rfl, below_step hb hb' (Nat.le_refl _), fun j hl => ?_⟩
    by_cases hji : j = i
    · subst hji; simpa [upd] using hv
    · have : L j = true := by simpa [hji] using hl
      have h3 := hF j (vs j) w' w'' (hf j this) hb'
      simpa [upd, hji] using h3
  · intro L a' w' hJ hall
    obtain ⟨vs, rfl, hb, hf⟩ := hJ
    exact hend vs w' hb (fun j hj => hf j (hall j hj))

theorem wanted_none {o : Oper} {y : Tmp → Option Bool} (h : o.guard = none) : Region.wanted o y = true := by simp [Region.wanted, h]
/-- The frame with a value in each operation's slot. -/
def frOf : List Oper → Nat → (Nat → Value) → Act → Act
  | [], _, _, a => a
  | o :: l, i, vs, a => frOf l (i + 1) vs (a.put o.dst (vs i))
theorem region_grows {P : Program} {id : Nat} {Q : Exit → Act → World → Prop} {a : Act} {w : World} {l : List Oper} (F : Nat → Value → World → Prop) (hm : P.follows .mixedOrders = true) (hd : depsB l = true)
    (hF : ∀ i v w w', F i v w → Below w.heap.size w w' → F i v w') (h0 : ∃ vs, a = frOf l 0 vs a)
    (hstep : ∀ (vs : Nat → Value) (w' : World) (i : Nat) (o : Oper), l[i]? = some o → Below w.heap.size w w' → (∀ j, (o.after.any fun e => Region.binds .any e && e.on == j) = true → F j (vs j) w') →
      Region.wanted o (yielded l.toArray (frOf l 0 vs a).tmps) = true ∧ o.wp P (frOf l 0 vs a) w' (fun a' w'' => ∃ v, a' = frOf l 0 (upd vs i v) a ∧ F i v w'' ∧ Below w'.heap.size w' w'') Q)
    (hend : ∀ (vs : Nat → Value) (w' : World), Below w.heap.size w w' → (∀ j, j < l.length → F j (vs j) w') → Q .normal (frOf l 0 vs a) w') :
    (Code.region id l.toArray true).wp P Q a w := wp_region_grows (fun vs => frOf l 0 vs a) F hm hd hF h0 hstep hend
theorem region_grow {P : Program} {id : Nat} {Q : Exit → Act → World → Prop} {a : Act} {w : World} {l : List Oper} (n : Nat) (F : Nat → Value → World → Prop) (hm : P.follows .mixedOrders = true) (hd : depsB l = true) (hn : l.length = n + 1)
    (hlast : ∀ o, l[n]? = some o → ∀ i, i < n → (o.after.any fun e => Region.binds .any e && e.on == i) = true)
    (hF : ∀ i v w w', F i v w → Below w.heap.size w w' → F i v w') (h0 : ∃ vs, a = frOf (l.take n) 0 vs a)
    (hstep : ∀ (vs : Nat → Value) (w' : World) (i : Nat) (o : Oper), i < n → l[i]? = some o → Below w.heap.size w w' → (∀ j, (o.after.any fun e => Region.binds .any e && e.on == j) = true → F j (vs j) w') →
      Region.wanted o (yielded l.toArray (frOf (l.take n) 0 vs a).tmps) = true ∧ o.wp P (frOf (l.take n) 0 vs a) w' (fun a' w'' => ∃ v, a' = frOf (l.take n) 0 (upd vs i v) a ∧ F i v w'' ∧ Below w'.heap.size w' w'') Q)
    (hend : ∀ (vs : Nat → Value) (w' : World) (o : Oper), l[n]? = some o → Below w.heap.size w w' → (∀ j, j < n → F j (vs j) w') → Region.wanted o (yielded l.toArray (frOf (l.take n) 0 vs a).tmps) = true ∧ o.wp P (frOf (l.take n) 0 vs a) w' (fun a' w'' => Q .normal a' w'') Q) :
    (Code.region id l.toArray true).wp P Q a w := wp_region_grow n (fun vs => frOf (l.take n) 0 vs a) F hm hd hn hlast hF h0 hstep hend
theorem grows_of {P : Program} {id : Nat} {Q : Exit → Act → World → Prop} {a : Act} {w : World} {l : List Oper} {fr : (Nat → Value) → Act} (F : Nat → Value → World → Prop) (hm : P.follows .mixedOrders = true) (hd : depsB l = true)
    (hfr : ∀ vs, frOf l 0 vs a = fr vs) (h0 : ∃ vs, a = fr vs) (hF : ∀ i v w w', F i v w → Below w.heap.size w w' → F i v w')
    (hstep : ∀ (vs : Nat → Value) (w' : World) (i : Nat) (o : Oper), l[i]? = some o → Below w.heap.size w w' → (∀ j, (o.after.any fun e => Region.binds .any e && e.on == j) = true → F j (vs j) w') →
      Region.wanted o (yielded l.toArray (fr vs).tmps) = true ∧ o.wp P (fr vs) w' (fun a' w'' => ∃ v, a' = fr (upd vs i v) ∧ F i v w'' ∧ Below w'.heap.size w' w'') Q)
    (hend : ∀ (vs : Nat → Value) (w' : World), Below w.heap.size w w' → (∀ j, j < l.length → F j (vs j) w') → Q .normal (fr vs) w') :
    (Code.region id l.toArray true).wp P Q a w :=
  have _ := hfr
  wp_region_grows fr F hm hd hF h0 hstep hend
theorem grow_of {P : Program} {id : Nat} {Q : Exit → Act → World → Prop} {a : Act} {w : World} {l : List Oper} (n : Nat) {fr : (Nat → Value) → Act} (F : Nat → Value → World → Prop) (hm : P.follows .mixedOrders = true) (hd : depsB l = true) (hn : l.length = n + 1)
    (hlast : ∀ o, l[n]? = some o → ∀ i, i < n → (o.after.any fun e => Region.binds .any e && e.on == i) = true)
    (hfr : ∀ vs, frOf (l.take n) 0 vs a = fr vs) (h0 : ∃ vs, a = fr vs) (hF : ∀ i v w w', F i v w → Below w.heap.size w w' → F i v w')
    (hstep : ∀ (vs : Nat → Value) (w' : World) (i : Nat) (o : Oper), i < n → l[i]? = some o → Below w.heap.size w w' → (∀ j, (o.after.any fun e => Region.binds .any e && e.on == j) = true → F j (vs j) w') →
      Region.wanted o (yielded l.toArray (fr vs).tmps) = true ∧ o.wp P (fr vs) w' (fun a' w'' => ∃ v, a' = fr (upd vs i v) ∧ F i v w'' ∧ Below w'.heap.size w' w'') Q)
    (hend : ∀ (vs : Nat → Value) (w' : World) (o : Oper), l[n]? = some o → Below w.heap.size w w' → (∀ j, j < n → F j (vs j) w') → Region.wanted o (yielded l.toArray (fr vs).tmps) = true ∧ o.wp P (fr vs) w' (fun a' w'' => Q .normal a' w'') Q) :
    (Code.region id l.toArray true).wp P Q a w :=
  have _ := hfr
  wp_region_grow n fr F hm hd hn hlast hF h0 hstep hend
theorem calls_args {P : Program} {f : FuncId} {us bs : Array Value} {w : World} {R : Ending → World → Prop} (h : us = bs) (c : Calls P f bs w R) : Calls P f us w R := h ▸ c
end Go.Proofs.YtggjheapjklhgaaDoor

/- A region that draws its order, whose operations make memory at most but the last two, which come one behind the other. -/
namespace Go.Proofs.YtggjheapjklhgaaDoor
open Go.RowKit

theorem wp_region_grow2 {P : Program} {id : Nat} {Q : Exit → Act → World → Prop} {a : Act} {w : World} {l : List Oper} (n : Nat) (fr : (Nat → Value) → Act) (F : Nat → Value → World → Prop) (hm : P.follows .mixedOrders = true) (hd : depsB l = true) (hn : l.length = n + 2)
    (hlast : ∀ o, l[n]? = some o → ∀ i, i < n → (o.after.any fun e => Region.binds .any e && e.on == i) = true)
    (hlast2 : ∀ o, l[n + 1]? = some o → ∀ i, i < n + 1 → (o.after.any fun e => Region.binds .any e && e.on == i) = true)
    (hF : ∀ i v w w', F i v w → Below w.heap.size w w' → F i v w') (h0 : ∃ vs, a = fr vs)
    (hstep : ∀ (vs : Nat → Value) (w' : World) (i : Nat) (o : Oper), i < n → l[i]? = some o → Below w.heap.size w w' → (∀ j, (o.after.any fun e => Region.binds .any e && e.on == j) = true → F j (vs j) w') →
      Region.wanted o (yielded l.toArray (fr vs).tmps) = true ∧ o.wp P (fr vs) w' (fun a' w'' => ∃ v, a' = fr (upd vs i v) ∧ F i v w'' ∧ Below w'.heap.size w' w'') Q)
    (hend : ∀ (vs : Nat → Value) (w' : World) (o o2 : Oper), l[n]? = some o → l[n + 1]? = some o2 → Below w.heap.size w w' → (∀ j, j < n → F j (vs j) w') →
      Region.wanted o (yielded l.toArray (fr vs).tmps) = true ∧ o.wp P (fr vs) w' (fun a' w'' => Region.wanted o2 (yielded l.toArray a'.tmps) = true ∧ o2.wp P a' w'' (fun a'' w3 => Q .normal a'' w3) Q) Q) :
    (Code.region id l.toArray true).wp P Q a w := by
  obtain ⟨o2, ho2⟩ : ∃ o2, l[n + 1]? = some o2 := ⟨l[n + 1]'(by omega), List.getElem?_eq_getElem _⟩
  refine wp_region_inv (fun L a w' => (L (n + 1) = true ∧ (∀ i, i < n + 2 → L i = true) ∧ Q .normal a w') ∨ (L (n + 1) = false ∧ L n = true ∧ (∀ i, i < n → L i = true) ∧ Region.wanted o2 (yielded l.toArray a.tmps) = true ∧ o2.wp P a w' (fun a'' w3 => Q .normal a'' w3) Q) ∨
    (L (n + 1) = false ∧ L n = false ∧ ∃ vs, a = fr vs ∧ Below w.heap.size w w' ∧ ∀ i, i < n → L i = true → F i (vs i) w')) hm hd ?_ ?_ ?_
  · obtain ⟨vs, rfl⟩ := h0
    exact .inr (.inr ⟨rfl, rfl, vs, rfl, below_ofDrewN _ _ 1, fun i _ h => by cases h⟩)
  · intro L a' w' i o hJ ho hL hdep
    have hi : i < n + 2 := by rw [← hn]; exact (List.getElem?_eq_some_iff.1 ho).1
    have dep : ∀ j, (o.after.any fun e => Region.binds .any e && e.on == j) = true → L j = true := fun j hj => dep_of hdep j hj
    rcases hJ with ⟨h1, h2, _⟩ | ⟨h1, h2, h3, hw, hs⟩ | ⟨h1, h2, vs, rfl, hb, hf⟩
    · rw [h2 i hi] at hL; cases hL
    · rcases Nat.lt_trichotomy i n with hin | hin | hin
      · rw [h3 i hin] at hL; cases hL
      · subst hin; rw [h2] at hL; cases hL
      · have hin' : i = n + 1 := by omega
        subst hin'
        have hoo : o = o2 := by rw [ho2] at ho; simpa using ho.symm
        subst hoo
        rw [if_pos hw]
        refine Oper.wp_mono (fun a'' w'' hh => ?_) hs
        refine .inl ⟨by simp, fun j hj => ?_, hh⟩
        rcases Nat.lt_trichotomy j n with hjn | hjn | hjn
        · simp [h3 j hjn]
        · subst hjn; simp [h2]
        · have : j = n + 1 := by omega
          simp [this]
    · rcases Nat.lt_trichotomy i n with hin | hin | hin
      · have hlow : ∀ j, (o.after.any fun e => Region.binds .any e && e.on == j) = true → j < n := by
          intro j hj
          obtain ⟨e, he, hb⟩ := Array.any_eq_true'.1 hj
          simp only [Bool.and_eq_true, beq_iff_eq] at hb
          unfold depsB at hd
          have h1 := List.all_eq_true.1 hd i (List.mem_range.2 (by omega))
          rw [ho] at h1
          simp only at h1
          have h2 := Array.all_eq_true'.1 h1 e he
          have h3 : e.on < i := by simpa [hb.1] using h2
          omega
        obtain ⟨hw, hs⟩ := hstep vs w' i o hin ho hb (fun j hj => hf j (hlow j hj) (dep j hj))
        rw [if_pos hw]
        refine Oper.wp_mono (fun a'' w'' hh => ?_) hs
        obtain ⟨v, rfl, hv, hb'⟩ := hh
        refine .inr (.inr ⟨by simp [h1]; omega, by simp [h2]; omega, upd vs i v, rfl, below_step hb hb' (Nat.le_refl _), fun j hj hl => ?_⟩)
        by_cases hji : j = i
        · subst hji; simpa [upd] using hv
        · have : L j = true := by simpa [hji] using hl
          have h3 := hF j (vs j) w' w'' (hf j hj this) hb'
          simpa [upd, hji] using h3
      · subst hin
        have hall : ∀ j, j < i → L j = true := fun j hj => dep j (hlast o ho j hj)
        obtain ⟨hw, hs⟩ := hend vs w' o o2 ho ho2 hb (fun j hj => hf j hj (hall j hj))
        rw [if_pos hw]
        refine Oper.wp_mono (fun a'' w'' hh => ?_) hs
        exact .inr (.inl ⟨by simp [h1], by simp, fun j hj => by simp [hall j hj], hh.1, hh.2⟩)
      · have hin' : i = n + 1 := by omega
        subst hin'
        have := dep n (hlast2 o ho n (by omega))
        rw [h2] at this; cases this
  · intro L a' w' hJ hall
    rcases hJ with ⟨_, _, h⟩ | ⟨h1, _⟩ | ⟨h1, _⟩
    · exact h
    · rw [hall (n + 1) (by omega)] at h1; cases h1
    · rw [hall (n + 1) (by omega)] at h1; cases h1
theorem grow2_of {P : Program} {id : Nat} {Q : Exit → Act → World → Prop} {a : Act} {w : World} {l : List Oper} (n : Nat) {fr : (Nat → Value) → Act} (F : Nat → Value → World → Prop) (hm : P.follows .mixedOrders = true) (hd : depsB l = true) (hn : l.length = n + 2)
    (hlast : ∀ o, l[n]? = some o → ∀ i, i < n → (o.after.any fun e => Region.binds .any e && e.on == i) = true)
    (hlast2 : ∀ o, l[n + 1]? = some o → ∀ i, i < n + 1 → (o.after.any fun e => Region.binds .any e && e.on == i) = true)
    (hfr : ∀ vs, frOf (l.take n) 0 vs a = fr vs) (h0 : ∃ vs, a = fr vs) (hF : ∀ i v w w', F i v w → Below w.heap.size w w' → F i v w')
    (hstep : ∀ (vs : Nat → Value) (w' : World) (i : Nat) (o : Oper), i < n → l[i]? = some o → Below w.heap.size w w' → (∀ j, (o.after.any fun e => Region.binds .any e && e.on == j) = true → F j (vs j) w') →
      Region.wanted o (yielded l.toArray (fr vs).tmps) = true ∧ o.wp P (fr vs) w' (fun a' w'' => ∃ v, a' = fr (upd vs i v) ∧ F i v w'' ∧ Below w'.heap.size w' w'') Q)
    (hend : ∀ (vs : Nat → Value) (w' : World) (o o2 : Oper), l[n]? = some o → l[n + 1]? = some o2 → Below w.heap.size w w' → (∀ j, j < n → F j (vs j) w') →
      Region.wanted o (yielded l.toArray (fr vs).tmps) = true ∧ o.wp P (fr vs) w' (fun a' w'' => Region.wanted o2 (yielded l.toArray a'.tmps) = true ∧ o2.wp P a' w'' (fun a'' w3 => Q .normal a'' w3) Q) Q) :
    (Code.region id l.toArray true).wp P Q a w :=
  have _ := hfr
  wp_region_grow2 n fr F hm hd hn hlast hlast2 hF h0 hstep hend
end Go.Proofs.YtggjheapjklhgaaDoor

/- A region that draws its order: operations that make memory at most, a store (number s) that waits for all of them but number x, then a last one. Number x, which only reads slots, may come behind the store. -/
namespace Go.Proofs.YtggjheapjklhgaaDoor
open Go.RowKit

theorem grow3_of {P : Program} {id : Nat} {Q : Exit → Act → World → Prop} {a : Act} {w : World} {l : List Oper} (s x : Nat) (X : Value) {fr : (Nat → Value) → Act} (F : Nat → Value → World → Prop) (G : (Nat → Value) → World → Prop) (hm : P.follows .mixedOrders = true) (hd : depsB l = true) (hn : l.length = s + 2) (hxs : x < s)
    (hlast : ∀ o, l[s]? = some o → ∀ i, i < s → i ≠ x → (o.after.any fun e => Region.binds .any e && e.on == i) = true)
    (hlast2 : ∀ o, l[s + 1]? = some o → ∀ i, i < s + 1 → (o.after.any fun e => Region.binds .any e && e.on == i) = true)
    (hfr : ∀ vs, frOf (l.take s) 0 vs a = fr vs) (h0 : ∃ vs, a = fr vs) (hF : ∀ i v w w', F i v w → Below w.heap.size w w' → F i v w') (hX : ∀ v w, F x v w → v = X)
    (hstep : ∀ (vs : Nat → Value) (w' : World) (i : Nat) (o : Oper), i < s → l[i]? = some o → Below w.heap.size w w' → (∀ j, (o.after.any fun e => Region.binds .any e && e.on == j) = true → F j (vs j) w') →
      Region.wanted o (yielded l.toArray (fr vs).tmps) = true ∧ o.wp P (fr vs) w' (fun a' w'' => ∃ v, a' = fr (upd vs i v) ∧ F i v w'' ∧ Below w'.heap.size w' w'') Q)
    (hstore : ∀ (vs : Nat → Value) (w' : World) (o : Oper), l[s]? = some o → Below w.heap.size w w' → (∀ j, j < s → j ≠ x → F j (vs j) w') →
      Region.wanted o (yielded l.toArray (fr vs).tmps) = true ∧ o.wp P (fr vs) w' (fun a' w'' => a' = fr vs ∧ G vs w'') Q)
    (hlate : ∀ (vs : Nat → Value) (w' : World) (o : Oper), l[x]? = some o → G vs w' →
      Region.wanted o (yielded l.toArray (fr vs).tmps) = true ∧ o.wp P (fr vs) w' (fun a' w'' => a' = fr (upd vs x X) ∧ G (upd vs x X) w'') Q)
    (hend : ∀ (vs : Nat → Value) (w' : World) (o : Oper), l[s + 1]? = some o → G vs w' → vs x = X →
      Region.wanted o (yielded l.toArray (fr vs).tmps) = true ∧ o.wp P (fr vs) w' (fun a' w'' => Q .normal a' w'') Q) :
    (Code.region id l.toArray true).wp P Q a w := by
  have _ := hfr
  refine wp_region_inv (fun L a w' => (L (s + 1) = true ∧ (∀ i, i < s + 2 → L i = true) ∧ Q .normal a w') ∨ (L (s + 1) = false ∧ L s = true ∧ (∀ i, i < s → i ≠ x → L i = true) ∧ ∃ vs, a = fr vs ∧ G vs w' ∧ (L x = true → vs x = X)) ∨
    (L (s + 1) = false ∧ L s = false ∧ ∃ vs, a = fr vs ∧ Below w.heap.size w w' ∧ ∀ i, i < s → L i = true → F i (vs i) w')) hm hd ?_ ?_ ?_
  · obtain ⟨vs, rfl⟩ := h0
    exact .inr (.inr ⟨rfl, rfl, vs, rfl, below_ofDrewN _ _ 1, fun i _ h => by cases h⟩)
  · intro L a' w' i o hJ ho hL hdep
    have hi : i < s + 2 := by rw [← hn]; exact (List.getElem?_eq_some_iff.1 ho).1
    have dep : ∀ j, (o.after.any fun e => Region.binds .any e && e.on == j) = true → L j = true := fun j hj => dep_of hdep j hj
    rcases hJ with ⟨h1, h2, _⟩ | ⟨h1, h2, h3, vs, rfl, hg, hx⟩ | ⟨h1, h2, vs, rfl, hb, hf⟩
    · rw [h2 i hi] at hL; cases hL
    · by_cases hix : i = x
      · subst hix
        obtain ⟨hw, hs⟩ := hlate vs w' o ho hg
        rw [if_pos hw]
        refine Oper.wp_mono (fun a'' w'' hh => ?_) hs
        obtain ⟨rfl, hg'⟩ := hh
        exact .inr (.inl ⟨by simp [h1]; omega, by simp [h2], fun j hj hjx => by simp [h3 j hj hjx], upd vs i X, rfl, hg', fun _ => by simp [upd]⟩)
      · rcases Nat.lt_trichotomy i s with hin | hin | hin
        · rw [h3 i hin hix] at hL; cases hL
        · subst hin; rw [h2] at hL; cases hL
        · have hin' : i = s + 1 := by omega
          subst hin'
          have hxx := dep x (hlast2 o ho x (by omega))
          obtain ⟨hw, hs⟩ := hend vs w' o ho hg (hx hxx)
          rw [if_pos hw]
          refine Oper.wp_mono (fun a'' w'' hh => ?_) hs
          refine .inl ⟨by simp, fun j hj => ?_, hh⟩
          rcases Nat.lt_trichotomy j s with hjn | hjn | hjn
          · by_cases hjx : j = x
            · subst hjx; simp [hxx]
            · simp [h3 j hjn hjx]
          · subst hjn; simp [h2]
          · have : j = s + 1 := by omega
            simp [this]
    · rcases Nat.lt_trichotomy i s with hin | hin | hin
      · have hlow : ∀ j, (o.after.any fun e => Region.binds .any e && e.on == j) = true → j < s := by
          intro j hj
          obtain ⟨e, he, hb⟩ := Array.any_eq_true'.1 hj
          simp only [Bool.and_eq_true, beq_iff_eq] at hb
          unfold depsB at hd
          have h1 := List.all_eq_true.1 hd i (List.mem_range.2 (by omega))
          rw [ho] at h1
          simp only at h1
          have h2 := Array.all_eq_true'.1 h1 e he
          have h3 : e.on < i := by simpa [hb.1] using h2
          omega
        obtain ⟨hw, hs⟩ := hstep vs w' i o hin ho hb (fun j hj => hf j (hlow j hj) (dep j hj))
        rw [if_pos hw]
        refine Oper.wp_mono (fun a'' w'' hh => ?_) hs
        obtain ⟨v, rfl, hv, hb'⟩ := hh
        refine .inr (.inr ⟨by simp [h1]; omega, by simp [h2]; omega, upd vs i v, rfl, below_step hb hb' (Nat.le_refl _), fun j hj hl => ?_⟩)
        by_cases hji : j = i
        · subst hji; simpa [upd] using hv
        · have : L j = true := by simpa [hji] using hl
          have h3 := hF j (vs j) w' w'' (hf j hj this) hb'
          simpa [upd, hji] using h3
      · subst hin
        have hall : ∀ j, j < i → j ≠ x → L j = true := fun j hj hjx => dep j (hlast o ho j hj hjx)
        obtain ⟨hw, hs⟩ := hstore vs w' o ho hb (fun j hj hjx => hf j hj (hall j hj hjx))
        rw [if_pos hw]
        refine Oper.wp_mono (fun a'' w'' hh => ?_) hs
        obtain ⟨rfl, hg⟩ := hh
        refine .inr (.inl ⟨by simp [h1], by simp, fun j hj hjx => by simp [hall j hj hjx], vs, rfl, hg, fun hl => ?_⟩)
        have : L x = true := by
          have hne : x ≠ i := by omega
          simpa [hne] using hl
        exact hX _ _ (hf x hxs this)
      · have hin' : i = s + 1 := by omega
        subst hin'
        have := dep s (hlast2 o ho s (by omega))
        rw [h2] at this; cases this
  · intro L a' w' hJ hall
    rcases hJ with ⟨_, _, h⟩ | ⟨h1, _⟩ | ⟨h1, _⟩
    · exact h
    · rw [hall (s + 1) (by omega)] at h1; cases h1
    · rw [hall (s + 1) (by omega)] at h1; cases h1
end Go.Proofs.YtggjheapjklhgaaDoor

/- A region that draws its order: the first n operations make memory at most, the others come one behind the other. -/
namespace Go.Proofs.YtggjheapjklhgaaDoor
open Go.RowKit

/-- The operations one behind the other. -/
def wpTail (P : Program) (ops : Array Oper) (Q : Exit → Act → World → Prop) : List Oper → Act → World → Prop
  | [], a, w => Q .normal a w
  | o :: rest, a, w => if Region.wanted o (yielded ops a.tmps) = true then o.wp P a w (wpTail P ops Q rest) Q else wpTail P ops Q rest (a.put o.dst undef) w
theorem wpTail_nil {P : Program} {ops : Array Oper} {Q : Exit → Act → World → Prop} {a : Act} {w : World} (h : Q .normal a w) : wpTail P ops Q [] a w := h
theorem wpTail_cons {P : Program} {ops : Array Oper} {Q : Exit → Act → World → Prop} {a : Act} {w : World} {o : Oper} {rest : List Oper}
    (h : if Region.wanted o (yielded ops a.tmps) = true then o.wp P a w (wpTail P ops Q rest) Q else wpTail P ops Q rest (a.put o.dst undef) w) : wpTail P ops Q (o :: rest) a w := h
theorem wpTail_plain {P : Program} {ops : Array Oper} {Q : Exit → Act → World → Prop} {a : Act} {w : World} {o : Oper} {rest : List Oper} (hg : o.guard = none)
    (h : ∀ K : Act → World → Prop, (∀ a w, wpTail P ops Q rest a w → K a w) → o.wp P a w K Q) : wpTail P ops Q (o :: rest) a w := by
  unfold wpTail
  rw [if_pos (wanted_none hg)]
  exact h _ fun _ _ h => h
theorem wp_region_tail {P : Program} {id : Nat} {Q : Exit → Act → World → Prop} {a : Act} {w : World} {l : List Oper} (n : Nat) (fr : (Nat → Value) → Act) (F : Nat → Value → World → Prop) (D : (Nat → Value) → Prop) (hm : P.follows .mixedOrders = true) (hd : depsB l = true) (hn : n ≤ l.length)
    (hlast : ∀ m o, n ≤ m → l[m]? = some o → ∀ i, i < m → (o.after.any fun e => Region.binds .any e && e.on == i) = true)
    (hF : ∀ i v w w', F i v w → Below w.heap.size w w' → F i v w') (h0 : a = fr (fun _ => undef)) (hD0 : D (fun _ => undef))
    (hstep : ∀ (vs : Nat → Value) (w' : World) (i : Nat) (o : Oper), i < n → l[i]? = some o → Below w.heap.size w w' → D vs → (∀ j, j < n → vs j = undef ∨ F j (vs j) w') → (∀ j, (o.after.any fun e => Region.binds .any e && e.on == j) = true → F j (vs j) w') →
      Region.wanted o (yielded l.toArray (fr vs).tmps) = true ∧ o.wp P (fr vs) w' (fun a' w'' => ∃ v, a' = fr (upd vs i v) ∧ F i v w'' ∧ Below w'.heap.size w' w'' ∧ D (upd vs i v)) Q)
    (hend : ∀ (vs : Nat → Value) (w' : World), Below w.heap.size w w' → D vs → (∀ j, j < n → F j (vs j) w') → wpTail P l.toArray Q (l.drop n) (fr vs) w') :
    (Code.region id l.toArray true).wp P Q a w := by
  refine wp_region_inv (fun L a w' => (∃ m, n ≤ m ∧ m ≤ l.length ∧ (∀ i, L i = decide (i < m)) ∧ wpTail P l.toArray Q (l.drop m) a w') ∨ ((∀ i, n ≤ i → L i = false) ∧ ∃ vs, a = fr vs ∧ Below w.heap.size w w' ∧ D vs ∧ (∀ i, i < n → L i = true → F i (vs i) w') ∧ ∀ i, i < n → L i = false → vs i = undef)) hm hd ?_ ?_ ?_
  · exact .inr ⟨fun _ _ => rfl, _, h0, below_ofDrewN _ _ 1, hD0, fun i _ h => (by cases h), fun i _ _ => rfl⟩
  · intro L a' w' i o hJ ho hL hdep
    have hi : i < l.length := (List.getElem?_eq_some_iff.1 ho).1
    have dep : ∀ j, (o.after.any fun e => Region.binds .any e && e.on == j) = true → L j = true := fun j hj => dep_of hdep j hj
    -- one step of the tail
    have tail : ∀ m, n ≤ m → m ≤ l.length → (∀ j, L j = decide (j < m)) → wpTail P l.toArray Q (l.drop m) a' w' → n ≤ i →
        if Region.wanted o (yielded l.toArray a'.tmps) = true then o.wp P a' w' (fun a w' => (∃ m, n ≤ m ∧ m ≤ l.length ∧ (∀ i_1, (i_1 == i || L i_1) = decide (i_1 < m)) ∧ wpTail P l.toArray Q (l.drop m) a w') ∨ ((∀ j, n ≤ j → (j == i || L j) = false) ∧ ∃ vs, a = fr vs ∧ Below w.heap.size w w' ∧ D vs ∧ (∀ j, j < n → (j == i || L j) = true → F j (vs j) w') ∧ ∀ j, j < n → (j == i || L j) = false → vs j = undef)) Q
        else (∃ m, n ≤ m ∧ m ≤ l.length ∧ (∀ i_1, (i_1 == i || L i_1) = decide (i_1 < m)) ∧ wpTail P l.toArray Q (l.drop m) (a'.put o.dst undef) w') ∨ ((∀ j, n ≤ j → (j == i || L j) = false) ∧ ∃ vs, a'.put o.dst undef = fr vs ∧ Below w.heap.size w w' ∧ D vs ∧ (∀ j, j < n → (j == i || L j) = true → F j (vs j) w') ∧ ∀ j, j < n → (j == i || L j) = false → vs j = undef) := by
      intro m h1 h2 h3 h4 hin
      have him : i = m := by
        have e1 : ¬ i < m := by have := h3 i; rw [hL] at this; simpa using this.symm
        rcases Nat.lt_or_ge m i with h | h
        · have := dep m (hlast i o hin ho m h)
          rw [h3 m] at this
          simp at this
        · omega
      subst him
      have hdrop : l.drop i = o :: l.drop (i + 1) := by
        rw [List.drop_eq_getElem_cons hi]
        have := List.getElem?_eq_getElem hi
        rw [ho] at this
        simp only [Option.some.injEq] at this
        rw [this]
      rw [hdrop] at h4
      have hL' : ∀ j, (j == i || L j) = decide (j < i + 1) := by
        intro j
        rw [h3 j]
        rcases Nat.lt_trichotomy j i with h | h | h
        · simp [h]; omega
        · subst h; simp
        · have e1 : ¬ j = i := by omega
          have e2 : ¬ j < i := by omega
          have e3 : ¬ j < i + 1 := by omega
          simp [e1, e2, e3]
      unfold wpTail at h4
      split
      · rename_i hw
        rw [if_pos hw] at h4
        exact Oper.wp_mono (fun a'' w'' hh => .inl ⟨i + 1, by omega, by omega, hL', hh⟩) h4
      · rename_i hw
        rw [if_neg hw] at h4
        exact .inl ⟨i + 1, by omega, by omega, hL', h4⟩
    rcases hJ with ⟨m, h1, h2, h3, h4⟩ | ⟨h1, vs, rfl, hb, hDv, hf, hu⟩
    · rcases Nat.lt_or_ge i n with hin | hin
      · rw [h3 i] at hL
        simp at hL; omega
      · exact tail m h1 h2 h3 h4 hin
    · rcases Nat.lt_or_ge i n with hin | hin
      · have hlow : ∀ j, (o.after.any fun e => Region.binds .any e && e.on == j) = true → j < n := by
          intro j hj
          obtain ⟨e, he, hb⟩ := Array.any_eq_true'.1 hj
          simp only [Bool.and_eq_true, beq_iff_eq] at hb
          unfold depsB at hd
          have h1 := List.all_eq_true.1 hd i (List.mem_range.2 (by omega))
          rw [ho] at h1
          simp only at h1
          have h2 := Array.all_eq_true'.1 h1 e he
          have h3 : e.on < i := by simpa [hb.1] using h2
          omega
        obtain ⟨hw, hs⟩ := hstep vs w' i o hin ho hb hDv (fun j hj => by
          cases hl : L j with
          | true => exact .inr (hf j hj hl)
          | false => exact .inl (hu j hj hl)) (fun j hj => hf j (hlow j hj) (dep j hj))
        rw [if_pos hw]
        refine Oper.wp_mono (fun a'' w'' hh => ?_) hs
        obtain ⟨v, rfl, hv, hb', hD'⟩ := hh
        refine .inr ⟨fun j hj => by
          have e1 : ¬ j = i := by omega
          simp [e1, h1 j hj], upd vs i v, rfl, below_step hb hb' (Nat.le_refl _), hD', fun j hj hl => ?_, fun j hj hl => ?_⟩
        · by_cases hji : j = i
          · subst hji; simpa [upd] using hv
          · have : L j = true := by simpa [hji] using hl
            have h3 := hF j (vs j) w' w'' (hf j hj this) hb'
            simpa [upd, hji] using h3
        · have hji : j ≠ i := fun e => by simp [e] at hl
          have : L j = false := by simpa [hji] using hl
          simpa [upd, hji] using hu j hj this
      · have hall : ∀ j, j < i → L j = true := fun j hj => dep j (hlast i o hin ho j hj)
        have hni : i = n := by
          rcases Nat.lt_or_ge n i with h | h
          · have := hall n h; rw [h1 n (Nat.le_refl _)] at this; cases this
          · omega
        refine tail n (Nat.le_refl _) hn (fun j => ?_) (hend vs w' hb hDv (fun j hj => hf j hj (hall j (by omega)))) hin
        rcases Nat.lt_or_ge j n with h | h
        · rw [hall j (by omega)]; simp [h]
        · rw [h1 j h]
          have : ¬ j < n := by omega
          simp [this]
  · intro L a' w' hJ hall
    have fin : ∀ a w', wpTail P l.toArray Q (l.drop l.length) a w' → Q .normal a w' := by
      intro a w' h
      rw [List.drop_length] at h
      exact h
    rcases hJ with ⟨m, h1, h2, h3, h4⟩ | ⟨h1, vs, rfl, hb, hDv, hf, hu⟩
    · have hm : m = l.length := by
        rcases Nat.lt_or_ge m l.length with h | h
        · have := hall m h
          rw [h3 m] at this
          simp at this
        · omega
      subst hm
      exact fin _ _ h4
    · rcases Nat.lt_or_ge n l.length with h | h
      · have := hall n h; rw [h1 n (Nat.le_refl _)] at this; cases this
      · have hnl : n = l.length := by omega
        have := hend vs w' hb hDv (fun j hj => hf j hj (hall j (by omega)))
        rw [hnl] at this
        exact fin _ _ this
/-- The same with the frame found by unification and without a word on all values together. -/
theorem growT_of {P : Program} {id : Nat} {Q : Exit → Act → World → Prop} {a : Act} {w : World} {l : List Oper} (n : Nat) {fr : (Nat → Value) → Act} (F : Nat → Value → World → Prop) (hm : P.follows .mixedOrders = true) (hd : depsB l = true) (hn : n ≤ l.length)
    (hlast : ∀ m o, n ≤ m → l[m]? = some o → ∀ i, i < m → (o.after.any fun e => Region.binds .any e && e.on == i) = true)
    (hfr : ∀ vs, frOf (l.take n) 0 vs a = fr vs) (h0 : a = fr (fun _ => undef)) (hF : ∀ i v w w', F i v w → Below w.heap.size w w' → F i v w')
    (hstep : ∀ (vs : Nat → Value) (w' : World) (i : Nat) (o : Oper), i < n → l[i]? = some o → Below w.heap.size w w' → (∀ j, (o.after.any fun e => Region.binds .any e && e.on == j) = true → F j (vs j) w') →
      Region.wanted o (yielded l.toArray (fr vs).tmps) = true ∧ o.wp P (fr vs) w' (fun a' w'' => ∃ v, a' = fr (upd vs i v) ∧ F i v w'' ∧ Below w'.heap.size w' w'') Q)
    (hend : ∀ (vs : Nat → Value) (w' : World), Below w.heap.size w w' → (∀ j, j < n → F j (vs j) w') → wpTail P l.toArray Q (l.drop n) (fr vs) w') :
    (Code.region id l.toArray true).wp P Q a w :=
  have _ := hfr
  wp_region_tail n fr F (fun _ => True) hm hd hn hlast hF h0 trivial
    (fun vs w' i o hi ho hb _ _ hf => ⟨(hstep vs w' i o hi ho hb hf).1, Oper.wp_mono (fun _ _ ⟨v, e, f, b⟩ => ⟨v, e, f, b, trivial⟩) (hstep vs w' i o hi ho hb hf).2⟩)
    (fun vs w' hb _ hf => hend vs w' hb hf)
end Go.Proofs.YtggjheapjklhgaaDoor

/- A region that draws its order: each operation yields one value in whatever order; one of them stores. -/
namespace Go.Proofs.YtggjheapjklhgaaDoor
open Go.RowKit

theorem fix_of {P : Program} {id : Nat} {Q : Exit → Act → World → Prop} {a : Act} {w : World} {l : List Oper} (s : Nat) (V : Nat → Value) (W1 : World) {fr : (Nat → Value) → Act} (hm : P.follows .mixedOrders = true) (hd : depsB l = true) (hs : s < l.length)
    (hfr : ∀ vs, frOf l 0 vs a = fr vs) (h0 : ∃ vs, a = fr vs)
    (hstep : ∀ (vs : Nat → Value) (w' : World) (i : Nat) (o : Oper), l[i]? = some o → i ≠ s → (w' = w.drew ∨ w' = W1) → (∀ j, (o.after.any fun e => Region.binds .any e && e.on == j) = true → vs j = V j) →
      Region.wanted o (yielded l.toArray (fr vs).tmps) = true ∧ o.wp P (fr vs) w' (fun a' w'' => a' = fr (upd vs i (V i)) ∧ w'' = w') Q)
    (hstore : ∀ (vs : Nat → Value) (o : Oper), l[s]? = some o → (∀ j, (o.after.any fun e => Region.binds .any e && e.on == j) = true → vs j = V j) →
      Region.wanted o (yielded l.toArray (fr vs).tmps) = true ∧ o.wp P (fr vs) w.drew (fun a' w'' => a' = fr (upd vs s (V s)) ∧ w'' = W1) Q)
    (hend : ∀ (vs : Nat → Value), (∀ j, j < l.length → vs j = V j) → Q .normal (fr vs) W1) :
    (Code.region id l.toArray true).wp P Q a w := by
  have _ := hfr
  refine wp_region_inv (fun L a w' => ∃ vs, a = fr vs ∧ (∀ i, L i = true → vs i = V i) ∧ w' = if L s = true then W1 else w.drew) hm hd ?_ ?_ ?_
  · obtain ⟨vs, rfl⟩ := h0
    exact ⟨vs, rfl, (fun i h => by cases h), rfl⟩
  · intro L a' w' i o hJ ho hL hdep
    obtain ⟨vs, rfl, hv, hw'⟩ := hJ
    have dep : ∀ j, (o.after.any fun e => Region.binds .any e && e.on == j) = true → vs j = V j := fun j hj => hv j (dep_of hdep j hj)
    have upds : ∀ j, (j == i || L j) = true → upd vs i (V i) j = V j := by
      intro j hj
      by_cases hji : j = i
      · subst hji; simp [upd]
      · have : L j = true := by simpa [hji] using hj
        simpa [upd, hji] using hv j this
    by_cases his : i = s
    · subst his
      rw [hL] at hw'
      simp only [Bool.false_eq_true, if_false] at hw'
      subst hw'
      obtain ⟨hw, hst⟩ := hstore vs o ho dep
      rw [if_pos hw]
      refine Oper.wp_mono (fun a'' w'' hh => ?_) hst
      obtain ⟨rfl, rfl⟩ := hh
      exact ⟨_, rfl, upds, by simp⟩
    · have hsi : (s == i) = false := by simp; exact fun e => his e.symm
      obtain ⟨hw, hst⟩ := hstep vs w' i o ho his (by rw [hw']; split <;> simp) dep
      rw [if_pos hw]
      refine Oper.wp_mono (fun a'' w'' hh => ?_) hst
      obtain ⟨rfl, rfl⟩ := hh
      exact ⟨_, rfl, upds, by show _ = if (s == i || L s) = true then W1 else w.drew; rw [hsi, Bool.false_or]; exact hw'⟩
  · intro L a' w' hJ hall
    obtain ⟨vs, rfl, hv, hw'⟩ := hJ
    rw [hall s hs] at hw'
    simp only [if_true] at hw'
    subst hw'
    exact hend vs (fun j hj => hv j (hall j hj))
end Go.Proofs.YtggjheapjklhgaaDoor

/- A region that draws its order: the first n operations make memory at most, the others come one behind the other, each behind all earlier ones (by way of others too). -/
namespace Go.Proofs.YtggjheapjklhgaaDoor
open Go.RowKit

/-- Does operation m come behind operation i, perhaps by way of others? -/
def reachB (l : List Oper) : Nat → Nat → Nat → Bool
  | 0, _, _ => false
  | f + 1, m, i => match l[m]? with
    | some o => o.after.any fun e => Region.binds .any e && (e.on == i || reachB l f e.on i)
    | none => false
def tailB (l : List Oper) (n : Nat) : Bool := (List.range l.length).all fun m => (List.range m).all fun i => decide (m < n) || reachB l l.length m i
theorem reach_of {l : List Oper} {L : Nat → Bool} (hcl : ∀ j o, L j = true → l[j]? = some o → ∀ e ∈ o.after, Region.binds .any e = true → L e.on = true) :
    ∀ (f m : Nat), (∀ o, l[m]? = some o → ∀ e ∈ o.after, Region.binds .any e = true → L e.on = true) → ∀ i, reachB l f m i = true → L i = true
  | 0, _, _, _, h => by cases h
  | f + 1, m, hm, i, h => by
    unfold reachB at h
    split at h
    · rename_i o ho
      obtain ⟨e, he, hb⟩ := Array.any_eq_true'.1 h
      simp only [Bool.and_eq_true, Bool.or_eq_true, beq_iff_eq] at hb
      obtain ⟨hb1, hb2⟩ := hb
      have hl := hm o ho e he hb1
      rcases hb2 with h2 | h2
      · rw [← h2]; exact hl
      · exact reach_of hcl f e.on (fun o' ho' => hcl e.on o' hl ho') i h2
    · cases h
theorem growR_of {P : Program} {id : Nat} {Q : Exit → Act → World → Prop} {a : Act} {w : World} {l : List Oper} (n : Nat) {fr : (Nat → Value) → Act} (F : Nat → Value → World → Prop) (hm : P.follows .mixedOrders = true) (hd : depsB l = true) (hn : n ≤ l.length)
    (hlast : tailB l n = true)
    (hfr : ∀ vs, frOf (l.take n) 0 vs a = fr vs) (h0 : ∃ vs, a = fr vs) (hF : ∀ i v w w', F i v w → Below w.heap.size w w' → F i v w')
    (hstep : ∀ (vs : Nat → Value) (w' : World) (i : Nat) (o : Oper), i < n → l[i]? = some o → Below w.heap.size w w' → (∀ j, (o.after.any fun e => Region.binds .any e && e.on == j) = true → F j (vs j) w') →
      Region.wanted o (yielded l.toArray (fr vs).tmps) = true ∧ o.wp P (fr vs) w' (fun a' w'' => ∃ v, a' = fr (upd vs i v) ∧ F i v w'' ∧ Below w'.heap.size w' w'') Q)
    (hend : ∀ (vs : Nat → Value) (w' : World), Below w.heap.size w w' → (∀ j, j < n → F j (vs j) w') → wpTail P l.toArray Q (l.drop n) (fr vs) w') :
    (Code.region id l.toArray true).wp P Q a w := by
  have _ := hfr
  have reach : ∀ m i, n ≤ m → m < l.length → i < m → reachB l l.length m i = true := by
    intro m i h1 h2 h3
    unfold tailB at hlast
    have h4 := List.all_eq_true.1 hlast m (List.mem_range.2 h2)
    have h5 := List.all_eq_true.1 h4 i (List.mem_range.2 h3)
    have h6 : decide (m < n) = false := by simp; omega
    rw [h6, Bool.false_or] at h5
    exact h5
  refine wp_region_inv (fun L a w' => (∃ m, n ≤ m ∧ m ≤ l.length ∧ (∀ i, L i = decide (i < m)) ∧ wpTail P l.toArray Q (l.drop m) a w') ∨
    ((∀ i, n ≤ i → L i = false) ∧ (∀ j o, L j = true → l[j]? = some o → ∀ e ∈ o.after, Region.binds .any e = true → L e.on = true) ∧ ∃ vs, a = fr vs ∧ Below w.heap.size w w' ∧ (∀ i, i < n → L i = true → F i (vs i) w'))) hm hd ?_ ?_ ?_
  · obtain ⟨vs, h0⟩ := h0
    exact .inr ⟨fun _ _ => rfl, (fun j o h => by cases h), vs, h0, below_ofDrewN _ _ 1, fun i _ h => (by cases h)⟩
  · intro L a' w' i o hJ ho hL hdep
    have hi : i < l.length := (List.getElem?_eq_some_iff.1 ho).1
    have dep : ∀ j, (o.after.any fun e => Region.binds .any e && e.on == j) = true → L j = true := fun j hj => dep_of hdep j hj
    have hdrop : l.drop i = o :: l.drop (i + 1) := by
      rw [List.drop_eq_getElem_cons hi]
      have := List.getElem?_eq_getElem hi
      rw [ho] at this
      simp only [Option.some.injEq] at this
      rw [this]
    -- one step of the tail
    have tail : (∀ j, L j = decide (j < i)) → wpTail P l.toArray Q (l.drop i) a' w' → n ≤ i →
        if Region.wanted o (yielded l.toArray a'.tmps) = true then o.wp P a' w' (fun a w' => (∃ m, n ≤ m ∧ m ≤ l.length ∧ (∀ i_1, (i_1 == i || L i_1) = decide (i_1 < m)) ∧ wpTail P l.toArray Q (l.drop m) a w') ∨
          ((∀ j, n ≤ j → (j == i || L j) = false) ∧ (∀ j o, (j == i || L j) = true → l[j]? = some o → ∀ e ∈ o.after, Region.binds .any e = true → (e.on == i || L e.on) = true) ∧ ∃ vs, a = fr vs ∧ Below w.heap.size w w' ∧ (∀ j, j < n → (j == i || L j) = true → F j (vs j) w'))) Q
        else (∃ m, n ≤ m ∧ m ≤ l.length ∧ (∀ i_1, (i_1 == i || L i_1) = decide (i_1 < m)) ∧ wpTail P l.toArray Q (l.drop m) (a'.put o.dst undef) w') ∨
          ((∀ j, n ≤ j → (j == i || L j) = false) ∧ (∀ j o, (j == i || L j) = true → l[j]? = some o → ∀ e ∈ o.after, Region.binds .any e = true → (e.on == i || L e.on) = true) ∧ ∃ vs, a'.put o.dst undef = fr vs ∧ Below w.heap.size w w' ∧ (∀ j, j < n → (j == i || L j) = true → F j (vs j) w')) := by
      intro h3 h4 hin
      rw [hdrop] at h4
      have hL' : ∀ j, (j == i || L j) = decide (j < i + 1) := by
        intro j
        rw [h3 j]
        rcases Nat.lt_trichotomy j i with h | h | h
        · simp [h]; omega
        · subst h; simp
        · have e1 : ¬ j = i := by omega
          have e2 : ¬ j < i := by omega
          have e3 : ¬ j < i + 1 := by omega
          simp [e1, e2, e3]
      unfold wpTail at h4
      split
      · rename_i hw
        rw [if_pos hw] at h4
        exact Oper.wp_mono (fun a'' w'' hh => .inl ⟨i + 1, by omega, by omega, hL', hh⟩) h4
      · rename_i hw
        rw [if_neg hw] at h4
        exact .inl ⟨i + 1, by omega, by omega, hL', h4⟩
    rcases hJ with ⟨m, h1, h2, h3, h4⟩ | ⟨h1, hcl, vs, rfl, hb, hf⟩
    · have him : i = m := by
        have e1 : ¬ i < m := by have := h3 i; rw [hL] at this; simpa using this.symm
        rcases Nat.lt_or_ge m i with h | h
        · have hcl : ∀ j o, L j = true → l[j]? = some o → ∀ e ∈ o.after, Region.binds .any e = true → L e.on = true := by
            intro j o' hj ho' e he hbnd
            rw [h3 j] at hj
            have hjm : j < m := by simpa using hj
            unfold depsB at hd
            have q1 := List.all_eq_true.1 hd j (List.mem_range.2 (by omega))
            rw [ho'] at q1
            simp only at q1
            have q2 := Array.all_eq_true'.1 q1 e he
            have q3 : e.on < j := by simpa [hbnd] using q2
            rw [h3 e.on]; simp; omega
          have := reach_of hcl l.length i (fun o' ho' e he hbnd => by rw [ho] at ho'; simp only [Option.some.injEq] at ho'; subst ho'; exact hdep e he hbnd) m (reach i m (by omega) hi h)
          rw [h3 m] at this
          simp at this
        · omega
      subst him
      exact tail h3 h4 h1
    · rcases Nat.lt_or_ge i n with hin | hin
      · have hlow : ∀ j, (o.after.any fun e => Region.binds .any e && e.on == j) = true → j < n := by
          intro j hj
          obtain ⟨e, he, hb⟩ := Array.any_eq_true'.1 hj
          simp only [Bool.and_eq_true, beq_iff_eq] at hb
          unfold depsB at hd
          have h1 := List.all_eq_true.1 hd i (List.mem_range.2 (by omega))
          rw [ho] at h1
          simp only at h1
          have h2 := Array.all_eq_true'.1 h1 e he
          have h3 : e.on < i := by simpa [hb.1] using h2
          omega
        obtain ⟨hw, hs⟩ := hstep vs w' i o hin ho hb (fun j hj => hf j (hlow j hj) (dep j hj))
        rw [if_pos hw]
        refine Oper.wp_mono (fun a'' w'' hh => ?_) hs
        obtain ⟨v, rfl, hv, hb'⟩ := hh
        refine .inr ⟨fun j hj => by
          have e1 : ¬ j = i := by omega
          simp [e1, h1 j hj], fun j o' hj ho' e he hbnd => ?_, upd vs i v, rfl, below_step hb hb' (Nat.le_refl _), fun j hj hl => ?_⟩
        · by_cases hji : j = i
          · subst hji
            rw [ho] at ho'
            simp only [Option.some.injEq] at ho'
            subst ho'
            simp [hdep e he hbnd]
          · have : L j = true := by simpa [hji] using hj
            simp [hcl j o' this ho' e he hbnd]
        · by_cases hji : j = i
          · subst hji; simpa [upd] using hv
          · have : L j = true := by simpa [hji] using hl
            have h3 := hF j (vs j) w' w'' (hf j hj this) hb'
            simpa [upd, hji] using h3
      · have hall : ∀ j, j < i → L j = true := fun j hj => reach_of hcl l.length i (fun o' ho' e he hbnd => by rw [ho] at ho'; simp only [Option.some.injEq] at ho'; subst ho'; exact hdep e he hbnd) j (reach i j hin hi hj)
        have hni : i = n := by
          rcases Nat.lt_or_ge n i with h | h
          · have := hall n h; rw [h1 n (Nat.le_refl _)] at this; cases this
          · omega
        subst hni
        refine tail (fun j => ?_) (hend vs w' hb (fun j hj => hf j hj (hall j hj))) hin
        rcases Nat.lt_or_ge j i with h | h
        · rw [hall j h]; simp [h]
        · rw [h1 j h]
          have : ¬ j < i := by omega
          simp [this]
  · intro L a' w' hJ hall
    have fin : ∀ a w', wpTail P l.toArray Q (l.drop l.length) a w' → Q .normal a w' := by
      intro a w' h
      rw [List.drop_length] at h
      exact h
    rcases hJ with ⟨m, h1, h2, h3, h4⟩ | ⟨h1, hcl, vs, rfl, hb, hf⟩
    · have hm : m = l.length := by
        rcases Nat.lt_or_ge m l.length with h | h
        · have := hall m h
          rw [h3 m] at this
          simp at this
        · omega
      subst hm
      exact fin _ _ h4
    · rcases Nat.lt_or_ge n l.length with h | h
      · have := hall n h; rw [h1 n (Nat.le_refl _)] at this; cases this
      · have hnl : n = l.length := by omega
        have := hend vs w' hb (fun j hj => hf j hj (hall j (by omega)))
        rw [hnl] at this
        exact fin _ _ this
section
variable {α : Type} {f : α → List Value} {k : Nat} {t T : TypeId} {z : Value} {bytes : Nat}
/-- append of one record that lies in a block of its own. -/
theorem run_append_rec_at (R : RecT f k t T z bytes) (ty : TypeId) (W : World) (B U h : Nat) (a : Option Addr) (n c : Nat) (xs : List α) (hown : OwnF f k T W B U a n c xs) (y : α) (hy : ∀ j u, (f y)[j]? = some u → W.cell? ((⟨h, 0, none⟩ : Addr).add j) = some u) (hB : B ≤ W.heap.size) (hn : n ≤ 1099511627776) :
    ∃ a' c' w', (Builtin.append_ #[t, t] ty #[.slice a n c, .slice (some ⟨h, 0, none⟩) 1 1]).run Tryd.prog W = .ok (.slice a' (n + 1) c') w' ∧
      OwnF f k T w' B w'.heap.size a' (n + 1) c' (xs ++ [y]) ∧ Keeps (fun b => (Value.slice a n c).ownBlock = some b) W w' := by
  obtain ⟨i, hi, hz0, hz1, hz2⟩ := info_parts R.info
  have hs := R.small
  have hbig : (n + 1) * bytes ≤ 140737488355328 := by
    have := Nat.mul_le_mul_left (n + 1) hs
    omega
  obtain ⟨v', w', hr, h2, h3, h4⟩ := run_append_own (P := Tryd.prog) W B t ty T i z k bytes R.under hi hz0 hz1 hz2 R.zero R.pos _ n _ hown.row ⟨h, 0, none⟩ 1 1 (f y) (by rw [R.len, Nat.one_mul]) hy (R.one y) (by unfold maxLen; omega) hbig hB
  rw [← flat_snoc] at h2
  have hlen : (xs ++ [y]).length = n + 1 := by
    have := h2.1
    rw [flat_length R.len] at this
    exact Nat.eq_of_mul_eq_mul_right R.pos this
  obtain ⟨a', c', rfl, hhi⟩ : ∃ a' c', v' = .slice a' (n + 1) c' ∧ ∀ b, (Value.slice a' (n + 1) c').ownBlock = some b → b < w'.heap.size := by
    rcases h2.2 with ⟨_, h0⟩ | ⟨g, cap, cur, rfl, _, hg, _⟩
    · omega
    · refine ⟨_, _, rfl, fun b hb => ?_⟩
      rw [ownBlock_slice] at hb
      simp only [Option.some.injEq] at hb
      subst hb
      exact (Array.getElem?_eq_some_iff.1 hg).1
  exact ⟨a', c', w', hr, ⟨Nat.le_refl _, h2, hhi⟩, ⟨h3.os, h3.tape, h3.output, h3.size, fun b hb hne => h3.block b hb fun e => hne e.symm⟩⟩
/-- .. at a tail's operation. -/
theorem wpTail_append_rec (R : RecT f k t T z bytes) {ops : Array Oper} {rest : List Oper} {o : Oper} {ac : Act} {Q : Exit → Act → World → Prop} (hgd : o.guard = none) (s x : Operand)
    (ho : o.op = .call { callee := .builtin .append, args := #[s, x], argTypes := #[t, t] })
    (W : World) (B U h : Nat) (a : Option Addr) (n c : Nat) (xs : List α) (hown : OwnF f k T W B U a n c xs) (hs : ac.eval s = .slice a n c) (y : α) (hy : ∀ j u, (f y)[j]? = some u → W.cell? ((⟨h, 0, none⟩ : Addr).add j) = some u) (hx : ac.eval x = .slice (some ⟨h, 0, none⟩) 1 1) (hB : B ≤ W.heap.size) (hn : n ≤ 1099511627776)
    (hk : ∀ a' c' w', OwnF f k T w' B w'.heap.size a' (n + 1) c' (xs ++ [y]) → Keeps (fun b => (Value.slice a n c).ownBlock = some b) W w' → wpTail Tryd.prog ops Q rest (ac.put o.dst (.slice a' (n + 1) c')) w') :
    wpTail Tryd.prog ops Q (o :: rest) ac W := by
  obtain ⟨a', c', w', hr, h2, h3⟩ := run_append_rec_at R o.type W B U h a n c xs hown y hy hB hn
  refine wpTail_plain hgd fun K hK => ?_
  unfold Oper.wp execOp
  simp only [ho, resolve, invoke, builtin, Sem.run_bind, Sem.run_pure, Result.andThen_ok, List.map_toArray, List.map_cons, List.map_nil, hs, hx, hr]
  exact hK _ _ (hk a' c' w' h2 h3)
end
end Go.Proofs.YtggjheapjklhgaaDoor

/- A region that draws its order and changes memory within an invariant: every operation keeps 'I' and yields a value with 'F'; the tail's operations come in a row. -/
namespace Go.Proofs.YtggjheapjklhgaaDoor
open Go.RowKit
theorem invR_of {P : Program} {id : Nat} {Q : Exit → Act → World → Prop} {a : Act} {w : World} {l : List Oper} (n : Nat) {fr : (Nat → Value) → Act} (F : Nat → Value → Prop) (I : World → Prop) (hm : P.follows .mixedOrders = true) (hd : depsB l = true) (hn : n ≤ l.length)
    (hlast : tailB l n = true)
    (hfr : ∀ vs, frOf (l.take n) 0 vs a = fr vs) (h0 : ∃ vs, a = fr vs) (hI : I (w.drewN 1))
    (hstep : ∀ (vs : Nat → Value) (w' : World) (i : Nat) (o : Oper), i < n → l[i]? = some o → I w' → (∀ j, (o.after.any fun e => Region.binds .any e && e.on == j) = true → F j (vs j)) →
      Region.wanted o (yielded l.toArray (fr vs).tmps) = true ∧ o.wp P (fr vs) w' (fun a' w'' => ∃ v, a' = fr (upd vs i v) ∧ F i v ∧ I w'') Q)
    (hend : ∀ (vs : Nat → Value) (w' : World), I w' → (∀ j, j < n → F j (vs j)) → wpTail P l.toArray Q (l.drop n) (fr vs) w') :
    (Code.region id l.toArray true).wp P Q a w := by
  have _ := hfr
  have reach : ∀ m i, n ≤ m → m < l.length → i < m → reachB l l.length m i = true := by
    intro m i h1 h2 h3
    unfold tailB at hlast
    have h4 := List.all_eq_true.1 hlast m (List.mem_range.2 h2)
    have h5 := List.all_eq_true.1 h4 i (List.mem_range.2 h3)
    have h6 : decide (m < n) = false := by simp; omega
    rw [h6, Bool.false_or] at h5
    exact h5
  refine wp_region_inv (fun L a w' => (∃ m, n ≤ m ∧ m ≤ l.length ∧ (∀ i, L i = decide (i < m)) ∧ wpTail P l.toArray Q (l.drop m) a w') ∨
    ((∀ i, n ≤ i → L i = false) ∧ (∀ j o, L j = true → l[j]? = some o → ∀ e ∈ o.after, Region.binds .any e = true → L e.on = true) ∧ ∃ vs, a = fr vs ∧ I w' ∧ (∀ i, i < n → L i = true → F i (vs i)))) hm hd ?_ ?_ ?_
  · obtain ⟨vs, h0⟩ := h0
    exact .inr ⟨fun _ _ => rfl, (fun j o h => by cases h), vs, h0, hI, fun i _ h => (by cases h)⟩
  · intro L a' w' i o hJ ho hL hdep
    have hi : i < l.length := (List.getElem?_eq_some_iff.1 ho).1
    have dep : ∀ j, (o.after.any fun e => Region.binds .any e && e.on == j) = true → L j = true := fun j hj => dep_of hdep j hj
    have hdrop : l.drop i = o :: l.drop (i + 1) := by
      rw [List.drop_eq_getElem_cons hi]
      have := List.getElem?_eq_getElem hi
      rw [ho] at this
      simp only [Option.some.injEq] at this
      rw [this]
    -- one step of the tail
    have tail : (∀ j, L j = decide (j < i)) → wpTail P l.toArray Q (l.drop i) a' w' → n ≤ i →
        if Region.wanted o (yielded l.toArray a'.tmps) = true then o.wp P a' w' (fun a w' => (∃ m, n ≤ m ∧ m ≤ l.length ∧ (∀ i_1, (i_1 == i || L i_1) = decide (i_1 < m)) ∧ wpTail P l.toArray Q (l.drop m) a w') ∨
          ((∀ j, n ≤ j → (j == i || L j) = false) ∧ (∀ j o, (j == i || L j) = true → l[j]? = some o → ∀ e ∈ o.after, Region.binds .any e = true → (e.on == i || L e.on) = true) ∧ ∃ vs, a = fr vs ∧ I w' ∧ (∀ j, j < n → (j == i || L j) = true → F j (vs j)))) Q
        else (∃ m, n ≤ m ∧ m ≤ l.length ∧ (∀ i_1, (i_1 == i || L i_1) = decide (i_1 < m)) ∧ wpTail P l.toArray Q (l.drop m) (a'.put o.dst undef) w') ∨
          ((∀ j, n ≤ j → (j == i || L j) = false) ∧ (∀ j o, (j == i || L j) = true → l[j]? = some o → ∀ e ∈ o.after, Region.binds .any e = true → (e.on == i || L e.on) = true) ∧ ∃ vs, a'.put o.dst undef = fr vs ∧ I w' ∧ (∀ j, j < n → (j == i || L j) = true → F j (vs j))) := by
      intro h3 h4 hin
      rw [hdrop] at h4
      have hL' : ∀ j, (j == i || L j) = decide (j < i + 1) := by
        intro j
        rw [h3 j]
        rcases Nat.lt_trichotomy j i with h | h | h
        · simp [h]; omega
        · subst h; simp
        · have e1 : ¬ j = i := by omega
          have e2 : ¬ j < i := by omega
          have e3 : ¬ j < i + 1 := by omega
          simp [e1, e2, e3]
      unfold wpTail at h4
      split
      · rename_i hw
        rw [if_pos hw] at h4
        exact Oper.wp_mono (fun a'' w'' hh => .inl ⟨i + 1, by omega, by omega, hL', hh⟩) h4
      · rename_i hw
        rw [if_neg hw] at h4
        exact .inl ⟨i + 1, by omega, by omega, hL', h4⟩
    rcases hJ with ⟨m, h1, h2, h3, h4⟩ | ⟨h1, hcl, vs, rfl, hb, hf⟩
    · have him : i = m := by
        have e1 : ¬ i < m := by have := h3 i; rw [hL] at this; simpa using this.symm
        rcases Nat.lt_or_ge m i with h | h
        · have hcl : ∀ j o, L j = true → l[j]? = some o → ∀ e ∈ o.after, Region.binds .any e = true → L e.on = true := by
            intro j o' hj ho' e he hbnd
            rw [h3 j] at hj
            have hjm : j < m := by simpa using hj
            unfold depsB at hd
            have q1 := List.all_eq_true.1 hd j (List.mem_range.2 (by omega))
            rw [ho'] at q1
            simp only at q1
            have q2 := Array.all_eq_true'.1 q1 e he
            have q3 : e.on < j := by simpa [hbnd] using q2
            rw [h3 e.on]; simp; omega
          have := reach_of hcl l.length i (fun o' ho' e he hbnd => by rw [ho] at ho'; simp only [Option.some.injEq] at ho'; subst ho'; exact hdep e he hbnd) m (reach i m (by omega) hi h)
          rw [h3 m] at this
          simp at this
        · omega
      subst him
      exact tail h3 h4 h1
    · rcases Nat.lt_or_ge i n with hin | hin
      · have hlow : ∀ j, (o.after.any fun e => Region.binds .any e && e.on == j) = true → j < n := by
          intro j hj
          obtain ⟨e, he, hb⟩ := Array.any_eq_true'.1 hj
          simp only [Bool.and_eq_true, beq_iff_eq] at hb
          unfold depsB at hd
          have h1 := List.all_eq_true.1 hd i (List.mem_range.2 (by omega))
          rw [ho] at h1
          simp only at h1
          have h2 := Array.all_eq_true'.1 h1 e he
          have h3 : e.on < i := by simpa [hb.1] using h2
          omega
        obtain ⟨hw, hs⟩ := hstep vs w' i o hin ho hb (fun j hj => hf j (hlow j hj) (dep j hj))
        rw [if_pos hw]
        refine Oper.wp_mono (fun a'' w'' hh => ?_) hs
        obtain ⟨v, rfl, hv, hb'⟩ := hh
        refine .inr ⟨fun j hj => by
          have e1 : ¬ j = i := by omega
          simp [e1, h1 j hj], fun j o' hj ho' e he hbnd => ?_, upd vs i v, rfl, hb', fun j hj hl => ?_⟩
        · by_cases hji : j = i
          · subst hji
            rw [ho] at ho'
            simp only [Option.some.injEq] at ho'
            subst ho'
            simp [hdep e he hbnd]
          · have : L j = true := by simpa [hji] using hj
            simp [hcl j o' this ho' e he hbnd]
        · by_cases hji : j = i
          · subst hji; simpa [upd] using hv
          · have : L j = true := by simpa [hji] using hl
            simpa [upd, hji] using hf j hj this
      · have hall : ∀ j, j < i → L j = true := fun j hj => reach_of hcl l.length i (fun o' ho' e he hbnd => by rw [ho] at ho'; simp only [Option.some.injEq] at ho'; subst ho'; exact hdep e he hbnd) j (reach i j hin hi hj)
        have hni : i = n := by
          rcases Nat.lt_or_ge n i with h | h
          · have := hall n h; rw [h1 n (Nat.le_refl _)] at this; cases this
          · omega
        subst hni
        refine tail (fun j => ?_) (hend vs w' hb (fun j hj => hf j hj (hall j hj))) hin
        rcases Nat.lt_or_ge j i with h | h
        · rw [hall j h]; simp [h]
        · rw [h1 j h]
          have : ¬ j < i := by omega
          simp [this]
  · intro L a' w' hJ hall
    have fin : ∀ a w', wpTail P l.toArray Q (l.drop l.length) a w' → Q .normal a w' := by
      intro a w' h
      rw [List.drop_length] at h
      exact h
    rcases hJ with ⟨m, h1, h2, h3, h4⟩ | ⟨h1, hcl, vs, rfl, hb, hf⟩
    · have hm : m = l.length := by
        rcases Nat.lt_or_ge m l.length with h | h
        · have := hall m h
          rw [h3 m] at this
          simp at this
        · omega
      subst hm
      exact fin _ _ h4
    · rcases Nat.lt_or_ge n l.length with h | h
      · have := hall n h; rw [h1 n (Nat.le_refl _)] at this; cases this
      · have hnl : n = l.length := by omega
        have := hend vs w' hb (fun j hj => hf j hj (hall j (by omega)))
        rw [hnl] at this
        exact fin _ _ this
end Go.Proofs.YtggjheapjklhgaaDoor

/- A region that draws its order: as growR_of, with a word on all values together. -/
namespace Go.Proofs.YtggjheapjklhgaaDoor
open Go.RowKit
theorem growD_of {P : Program} {id : Nat} {Q : Exit → Act → World → Prop} {a : Act} {w : World} {l : List Oper} (n : Nat) {fr : (Nat → Value) → Act} (F : Nat → Value → World → Prop) (D : (Nat → Value) → Prop) (hm : P.follows .mixedOrders = true) (hd : depsB l = true) (hn : n ≤ l.length)
    (hlast : tailB l n = true)
    (hfr : ∀ vs, frOf (l.take n) 0 vs a = fr vs) (h0 : a = fr (fun _ => undef)) (hD0 : D (fun _ => undef)) (hF : ∀ i v w w', F i v w → Below w.heap.size w w' → F i v w')
    (hstep : ∀ (vs : Nat → Value) (w' : World) (i : Nat) (o : Oper), i < n → l[i]? = some o → Below w.heap.size w w' → D vs → (∀ j, j < n → vs j = undef ∨ F j (vs j) w') → (∀ j, (o.after.any fun e => Region.binds .any e && e.on == j) = true → F j (vs j) w') →
      Region.wanted o (yielded l.toArray (fr vs).tmps) = true ∧ o.wp P (fr vs) w' (fun a' w'' => ∃ v, a' = fr (upd vs i v) ∧ F i v w'' ∧ Below w'.heap.size w' w'' ∧ D (upd vs i v)) Q)
    (hend : ∀ (vs : Nat → Value) (w' : World), Below w.heap.size w w' → D vs → (∀ j, j < n → F j (vs j) w') → wpTail P l.toArray Q (l.drop n) (fr vs) w') :
    (Code.region id l.toArray true).wp P Q a w := by
  have _ := hfr
  have reach : ∀ m i, n ≤ m → m < l.length → i < m → reachB l l.length m i = true := by
    intro m i h1 h2 h3
    unfold tailB at hlast
    have h4 := List.all_eq_true.1 hlast m (List.mem_range.2 h2)
    have h5 := List.all_eq_true.1 h4 i (List.mem_range.2 h3)
    have h6 : decide (m < n) = false := by simp; omega
    rw [h6, Bool.false_or] at h5
    exact h5
  refine wp_region_inv (fun L a w' => (∃ m, n ≤ m ∧ m ≤ l.length ∧ (∀ i, L i = decide (i < m)) ∧ wpTail P l.toArray Q (l.drop m) a w') ∨
    ((∀ i, n ≤ i → L i = false) ∧ (∀ j o, L j = true → l[j]? = some o → ∀ e ∈ o.after, Region.binds .any e = true → L e.on = true) ∧ ∃ vs, a = fr vs ∧ Below w.heap.size w w' ∧ D vs ∧ (∀ i, i < n → L i = true → F i (vs i) w') ∧ ∀ i, i < n → L i = false → vs i = undef)) hm hd ?_ ?_ ?_
  · exact .inr ⟨fun _ _ => rfl, (fun j o h => by cases h), _, h0, below_ofDrewN _ _ 1, hD0, fun i _ h => (by cases h), fun _ _ _ => rfl⟩
  · intro L a' w' i o hJ ho hL hdep
    have hi : i < l.length := (List.getElem?_eq_some_iff.1 ho).1
    have dep : ∀ j, (o.after.any fun e => Region.binds .any e && e.on == j) = true → L j = true := fun j hj => dep_of hdep j hj
    have hdrop : l.drop i = o :: l.drop (i + 1) := by
      rw [List.drop_eq_getElem_cons hi]
      have := List.getElem?_eq_getElem hi
      rw [ho] at this
      simp only [Option.some.injEq] at this
      rw [this]
    -- one step of the tail
    have tail : (∀ j, L j = decide (j < i)) → wpTail P l.toArray Q (l.drop i) a' w' → n ≤ i →
        if Region.wanted o (yielded l.toArray a'.tmps) = true then o.wp P a' w' (fun a w' => (∃ m, n ≤ m ∧ m ≤ l.length ∧ (∀ i_1, (i_1 == i || L i_1) = decide (i_1 < m)) ∧ wpTail P l.toArray Q (l.drop m) a w') ∨
          ((∀ j, n ≤ j → (j == i || L j) = false) ∧ (∀ j o, (j == i || L j) = true → l[j]? = some o → ∀ e ∈ o.after, Region.binds .any e = true → (e.on == i || L e.on) = true) ∧ ∃ vs, a = fr vs ∧ Below w.heap.size w w' ∧ D vs ∧ (∀ j, j < n → (j == i || L j) = true → F j (vs j) w') ∧ ∀ j, j < n → (j == i || L j) = false → vs j = undef)) Q
        else (∃ m, n ≤ m ∧ m ≤ l.length ∧ (∀ i_1, (i_1 == i || L i_1) = decide (i_1 < m)) ∧ wpTail P l.toArray Q (l.drop m) (a'.put o.dst undef) w') ∨
          ((∀ j, n ≤ j → (j == i || L j) = false) ∧ (∀ j o, (j == i || L j) = true → l[j]? = some o → ∀ e ∈ o.after, Region.binds .any e = true → (e.on == i || L e.on) = true) ∧ ∃ vs, a'.put o.dst undef = fr vs ∧ Below w.heap.size w w' ∧ D vs ∧ (∀ j, j < n → (j == i || L j) = true → F j (vs j) w') ∧ ∀ j, j < n → (j == i || L j) = false → vs j = undef) := by
      intro h3 h4 hin
      rw [hdrop] at h4
      have hL' : ∀ j, (j == i || L j) = decide (j < i + 1) := by
        intro j
        rw [h3 j]
        rcases Nat.lt_trichotomy j i with h | h | h
        · simp [h]; omega
        · subst h; simp
        · have e1 : ¬ j = i := by omega
          have e2 : ¬ j < i := by omega
          have e3 : ¬ j < i + 1 := by omega
          simp [e1, e2, e3]
      unfold wpTail at h4
      split
      · rename_i hw
        rw [if_pos hw] at h4
        exact Oper.wp_mono (fun a'' w'' hh => .inl ⟨i + 1, by omega, by omega, hL', hh⟩) h4
      · rename_i hw
        rw [if_neg hw] at h4
        exact .inl ⟨i + 1, by omega, by omega, hL', h4⟩
    rcases hJ with ⟨m, h1, h2, h3, h4⟩ | ⟨h1, hcl, vs, rfl, hb, hDv, hf, hu⟩
    · have him : i = m := by
        have e1 : ¬ i < m := by have := h3 i; rw [hL] at this; simpa using this.symm
        rcases Nat.lt_or_ge m i with h | h
        · have hcl : ∀ j o, L j = true → l[j]? = some o → ∀ e ∈ o.after, Region.binds .any e = true → L e.on = true := by
            intro j o' hj ho' e he hbnd
            rw [h3 j] at hj
            have hjm : j < m := by simpa using hj
            unfold depsB at hd
            have q1 := List.all_eq_true.1 hd j (List.mem_range.2 (by omega))
            rw [ho'] at q1
            simp only at q1
            have q2 := Array.all_eq_true'.1 q1 e he
            have q3 : e.on < j := by simpa [hbnd] using q2
            rw [h3 e.on]; simp; omega
          have := reach_of hcl l.length i (fun o' ho' e he hbnd => by rw [ho] at ho'; simp only [Option.some.injEq] at ho'; subst ho'; exact hdep e he hbnd) m (reach i m (by omega) hi h)
          rw [h3 m] at this
          simp at this
        · omega
      subst him
      exact tail h3 h4 h1
    · rcases Nat.lt_or_ge i n with hin | hin
      · have hlow : ∀ j, (o.after.any fun e => Region.binds .any e && e.on == j) = true → j < n := by
          intro j hj
          obtain ⟨e, he, hb⟩ := Array.any_eq_true'.1 hj
          simp only [Bool.and_eq_true, beq_iff_eq] at hb
          unfold depsB at hd
          have h1 := List.all_eq_true.1 hd i (List.mem_range.2 (by omega))
          rw [ho] at h1
          simp only at h1
          have h2 := Array.all_eq_true'.1 h1 e he
          have h3 : e.on < i := by simpa [hb.1] using h2
          omega
        obtain ⟨hw, hs⟩ := hstep vs w' i o hin ho hb hDv (fun j hj => by cases hl : L j with | true => exact .inr (hf j hj hl) | false => exact .inl (hu j hj hl)) (fun j hj => hf j (hlow j hj) (dep j hj))
        rw [if_pos hw]
        refine Oper.wp_mono (fun a'' w'' hh => ?_) hs
        obtain ⟨v, rfl, hv, hb', hD'⟩ := hh
        refine .inr ⟨fun j hj => by
          have e1 : ¬ j = i := by omega
          simp [e1, h1 j hj], fun j o' hj ho' e he hbnd => ?_, upd vs i v, rfl, below_step hb hb' (Nat.le_refl _), hD', fun j hj hl => ?_, fun j hj hl => ?_⟩
        · by_cases hji : j = i
          · subst hji
            rw [ho] at ho'
            simp only [Option.some.injEq] at ho'
            subst ho'
            simp [hdep e he hbnd]
          · have : L j = true := by simpa [hji] using hj
            simp [hcl j o' this ho' e he hbnd]
        · by_cases hji : j = i
          · subst hji; simpa [upd] using hv
          · have : L j = true := by simpa [hji] using hl
            have h3 := hF j (vs j) w' w'' (hf j hj this) hb'
            simpa [upd, hji] using h3
        · have hji : j ≠ i := fun e => by simp [e] at hl
          have : L j = false := by simpa [hji] using hl
          simpa [upd, hji] using hu j hj this
      · have hall : ∀ j, j < i → L j = true := fun j hj => reach_of hcl l.length i (fun o' ho' e he hbnd => by rw [ho] at ho'; simp only [Option.some.injEq] at ho'; subst ho'; exact hdep e he hbnd) j (reach i j hin hi hj)
        have hni : i = n := by
          rcases Nat.lt_or_ge n i with h | h
          · have := hall n h; rw [h1 n (Nat.le_refl _)] at this; cases this
          · omega
        subst hni
        refine tail (fun j => ?_) (hend vs w' hb hDv (fun j hj => hf j hj (hall j hj))) hin
        rcases Nat.lt_or_ge j i with h | h
        · rw [hall j h]; simp [h]
        · rw [h1 j h]
          have : ¬ j < i := by omega
          simp [this]
  · intro L a' w' hJ hall
    have fin : ∀ a w', wpTail P l.toArray Q (l.drop l.length) a w' → Q .normal a w' := by
      intro a w' h
      rw [List.drop_length] at h
      exact h
    rcases hJ with ⟨m, h1, h2, h3, h4⟩ | ⟨h1, hcl, vs, rfl, hb, hDv, hf, hu⟩
    · have hm : m = l.length := by
        rcases Nat.lt_or_ge m l.length with h | h
        · have := hall m h
          rw [h3 m] at this
          simp at this
        · omega
      subst hm
      exact fin _ _ h4
    · rcases Nat.lt_or_ge n l.length with h | h
      · have := hall n h; rw [h1 n (Nat.le_refl _)] at this; cases this
      · have hnl : n = l.length := by omega
        have := hend vs w' hb hDv (fun j hj => hf j hj (hall j (by omega)))
        rw [hnl] at this
        exact fin _ _ this
end Go.Proofs.YtggjheapjklhgaaDoor

/- A region that draws its order: operations that make memory at most, one operation (number s) that changes memory and waits for all of them, pure operations (X) that come at any time, then a tail in a row. -/
namespace Go.Proofs.YtggjheapjklhgaaDoor
open Go.RowKit
def bigB (l : List Oper) (n s : Nat) (X : Nat → Bool) : Bool := (List.range n).all fun i => X i || i == s || (decide (i < s) && reachB l l.length s i)
theorem mix_of {P : Program} {id : Nat} {Q : Exit → Act → World → Prop} {a : Act} {w : World} {l : List Oper} (n s : Nat) (X : Nat → Bool) (V : Nat → Value) {fr : (Nat → Value) → Act} (F : Nat → Value → World → Prop) (G : (Nat → Value) → World → Prop)
    (hm : P.follows .mixedOrders = true) (hd : depsB l = true) (hn : n ≤ l.length) (hs : s < n) (hXs : X s = false)
    (hlast : tailB l n = true) (hbigB : bigB l n s X = true)
    (hfr : ∀ vs, frOf (l.take n) 0 vs a = fr vs) (h0 : ∃ vs, a = fr vs) (hF : ∀ i v w w', F i v w → Below w.heap.size w w' → F i v w')
    (hG : ∀ vs w' i, X i = true → G vs w' → G (upd vs i (V i)) w')
    (hstep : ∀ (vs : Nat → Value) (w' : World) (i : Nat) (o : Oper), i < n → i ≠ s → X i = false → l[i]? = some o → Below w.heap.size w w' → (∀ j, X j = false → (o.after.any fun e => Region.binds .any e && e.on == j) = true → F j (vs j) w') → (∀ j, X j = true → (o.after.any fun e => Region.binds .any e && e.on == j) = true → vs j = V j) →
      Region.wanted o (yielded l.toArray (fr vs).tmps) = true ∧ o.wp P (fr vs) w' (fun a' w'' => ∃ v, a' = fr (upd vs i v) ∧ F i v w'' ∧ Below w'.heap.size w' w'') Q)
    (hearly : ∀ (vs : Nat → Value) (w' : World) (i : Nat) (o : Oper), i < n → X i = true → l[i]? = some o → (∀ j, X j = false → j ≠ s → (o.after.any fun e => Region.binds .any e && e.on == j) = true → F j (vs j) w') → (∀ j, X j = true → (o.after.any fun e => Region.binds .any e && e.on == j) = true → vs j = V j) →
      Region.wanted o (yielded l.toArray (fr vs).tmps) = true ∧ o.wp P (fr vs) w' (fun a' w'' => a' = fr (upd vs i (V i)) ∧ w'' = w') Q)
    (hlate : ∀ (vs : Nat → Value) (w' : World) (i : Nat) (o : Oper), i < n → X i = true → l[i]? = some o → G vs w' → (∀ j, X j = true → (o.after.any fun e => Region.binds .any e && e.on == j) = true → vs j = V j) →
      Region.wanted o (yielded l.toArray (fr vs).tmps) = true ∧ o.wp P (fr vs) w' (fun a' w'' => a' = fr (upd vs i (V i)) ∧ w'' = w') Q)
    (hbig : ∀ (vs : Nat → Value) (w' : World) (o : Oper), l[s]? = some o → Below w.heap.size w w' → (∀ j, j < n → X j = false → j ≠ s → F j (vs j) w') → (∀ j, X j = true → (o.after.any fun e => Region.binds .any e && e.on == j) = true → vs j = V j) →
      Region.wanted o (yielded l.toArray (fr vs).tmps) = true ∧ o.wp P (fr vs) w' (fun a' w'' => ∃ v, a' = fr (upd vs s v) ∧ G (upd vs s v) w'') Q)
    (hend : ∀ (vs : Nat → Value) (w' : World), G vs w' → (∀ j, j < n → X j = true → vs j = V j) → wpTail P l.toArray Q (l.drop n) (fr vs) w') :
    (Code.region id l.toArray true).wp P Q a w := by
  have _ := hfr
  have reach : ∀ m i, n ≤ m → m < l.length → i < m → reachB l l.length m i = true := by
    intro m i h1 h2 h3
    unfold tailB at hlast
    have h4 := List.all_eq_true.1 hlast m (List.mem_range.2 h2)
    have h5 := List.all_eq_true.1 h4 i (List.mem_range.2 h3)
    have h6 : decide (m < n) = false := by simp; omega
    rw [h6, Bool.false_or] at h5
    exact h5
  have reachS : ∀ i, i < n → X i = false → i ≠ s → i < s ∧ reachB l l.length s i = true := by
    intro i h1 h2 h3
    unfold bigB at hbigB
    have h4 := List.all_eq_true.1 hbigB i (List.mem_range.2 h1)
    simp [h2, h3] at h4
    exact h4
  refine wp_region_inv (fun L a w' => (∃ m, n ≤ m ∧ m ≤ l.length ∧ (∀ i, L i = decide (i < m)) ∧ wpTail P l.toArray Q (l.drop m) a w') ∨
    ((∀ i, n ≤ i → L i = false) ∧ (∀ j o, L j = true → l[j]? = some o → ∀ e ∈ o.after, Region.binds .any e = true → L e.on = true) ∧ ∃ vs, a = fr vs ∧ (∀ i, i < n → X i = true → L i = true → vs i = V i) ∧
      ((L s = true ∧ (∀ i, i < n → X i = false → L i = true) ∧ G vs w') ∨ (L s = false ∧ Below w.heap.size w w' ∧ ∀ i, i < n → X i = false → L i = true → F i (vs i) w')))) hm hd ?_ ?_ ?_
  · obtain ⟨vs, h0⟩ := h0
    exact .inr ⟨fun _ _ => rfl, (fun j o h => by cases h), vs, h0, (fun i _ _ h => by cases h), .inr ⟨rfl, below_ofDrewN _ _ 1, fun i _ _ h => (by cases h)⟩⟩
  · intro L a' w' i o hJ ho hL hdep
    have hi : i < l.length := (List.getElem?_eq_some_iff.1 ho).1
    have dep : ∀ j, (o.after.any fun e => Region.binds .any e && e.on == j) = true → L j = true := fun j hj => dep_of hdep j hj
    have hlow : ∀ j, (o.after.any fun e => Region.binds .any e && e.on == j) = true → j < i := by
      intro j hj
      obtain ⟨e, he, hb⟩ := Array.any_eq_true'.1 hj
      simp only [Bool.and_eq_true, beq_iff_eq] at hb
      unfold depsB at hd
      have h1 := List.all_eq_true.1 hd i (List.mem_range.2 (by omega))
      rw [ho] at h1
      simp only at h1
      have h2 := Array.all_eq_true'.1 h1 e he
      have h3 : e.on < i := by simpa [hb.1] using h2
      omega
    have hdrop : l.drop i = o :: l.drop (i + 1) := by
      rw [List.drop_eq_getElem_cons hi]
      have := List.getElem?_eq_getElem hi
      rw [ho] at this
      simp only [Option.some.injEq] at this
      rw [this]
    have closed' : (∀ j o, L j = true → l[j]? = some o → ∀ e ∈ o.after, Region.binds .any e = true → L e.on = true) → (∀ j o, (j == i || L j) = true → l[j]? = some o → ∀ e ∈ o.after, Region.binds .any e = true → (e.on == i || L e.on) = true) := by
      intro hcl j o' hj ho' e he hbnd
      by_cases hji : j = i
      · subst hji
        rw [ho] at ho'
        simp only [Option.some.injEq] at ho'
        subst ho'
        simp [hdep e he hbnd]
      · have : L j = true := by simpa [hji] using hj
        simp [hcl j o' this ho' e he hbnd]
    -- a step of the tail
    have tail : (∀ j, L j = decide (j < i)) → wpTail P l.toArray Q (l.drop i) a' w' → n ≤ i → ∀ R : Act → World → Prop, 
        (∀ a w', (∃ m, n ≤ m ∧ m ≤ l.length ∧ (∀ i_1, (i_1 == i || L i_1) = decide (i_1 < m)) ∧ wpTail P l.toArray Q (l.drop m) a w') → R a w') →
        if Region.wanted o (yielded l.toArray a'.tmps) = true then o.wp P a' w' R Q else R (a'.put o.dst undef) w' := by
      intro h3 h4 hin R hR
      rw [hdrop] at h4
      have hL' : ∀ j, (j == i || L j) = decide (j < i + 1) := by
        intro j
        rw [h3 j]
        rcases Nat.lt_trichotomy j i with h | h | h
        · simp [h]; omega
        · subst h; simp
        · have e1 : ¬ j = i := by omega
          have e2 : ¬ j < i := by omega
          have e3 : ¬ j < i + 1 := by omega
          simp [e1, e2, e3]
      unfold wpTail at h4
      split
      · rename_i hw
        rw [if_pos hw] at h4
        exact Oper.wp_mono (fun a'' w'' hh => hR _ _ ⟨i + 1, by omega, by omega, hL', hh⟩) h4
      · rename_i hw
        rw [if_neg hw] at h4
        exact hR _ _ ⟨i + 1, by omega, by omega, hL', h4⟩
    rcases hJ with ⟨m, h1, h2, h3, h4⟩ | ⟨h1, hcl, vs, rfl, hxv, hph⟩
    · have him : i = m := by
        have e1 : ¬ i < m := by have := h3 i; rw [hL] at this; simpa using this.symm
        rcases Nat.lt_or_ge m i with h | h
        · have hcl : ∀ j o, L j = true → l[j]? = some o → ∀ e ∈ o.after, Region.binds .any e = true → L e.on = true := by
            intro j o' hj ho' e he hbnd
            rw [h3 j] at hj
            have hjm : j < m := by simpa using hj
            unfold depsB at hd
            have q1 := List.all_eq_true.1 hd j (List.mem_range.2 (by omega))
            rw [ho'] at q1
            simp only at q1
            have q2 := Array.all_eq_true'.1 q1 e he
            have q3 : e.on < j := by simpa [hbnd] using q2
            rw [h3 e.on]; simp; omega
          have := reach_of hcl l.length i (fun o' ho' e he hbnd => by rw [ho] at ho'; simp only [Option.some.injEq] at ho'; subst ho'; exact hdep e he hbnd) m (reach i m (by omega) hi h)
          rw [h3 m] at this
          simp at this
        · omega
      subst him
      exact tail h3 h4 h1 _ (fun a w' h => .inl h)
    · rcases Nat.lt_or_ge i n with hin | hin
      · have hnot : ∀ j, n ≤ j → (j == i || L j) = false := fun j hj => by
          have e1 : ¬ j = i := by omega
          simp [e1, h1 j hj]
        cases hx : X i with
        | true =>
          have his : i ≠ s := fun e => by rw [e, hXs] at hx; cases hx
          have hsi : ¬ s = i := fun e => his e.symm
          have hxv' : ∀ j, j < n → X j = true → (j == i || L j) = true → upd vs i (V i) j = V j := by
            intro j hj hxj hl
            by_cases hji : j = i
            · subst hji; simp [upd]
            · have : L j = true := by simpa [hji] using hl
              simpa [upd, hji] using hxv j hj hxj this
          rcases hph with ⟨p1, p2, p3⟩ | ⟨p1, p2, p3⟩
          · obtain ⟨hw, hst⟩ := hlate vs w' i o hin hx ho p3 (fun j hxj hj => hxv j (by have := hlow j hj; omega) hxj (dep j hj))
            rw [if_pos hw]
            refine Oper.wp_mono (fun a'' w'' hh => ?_) hst
            obtain ⟨rfl, rfl⟩ := hh
            exact .inr ⟨hnot, closed' hcl, upd vs i (V i), rfl, hxv', .inl ⟨by simp [p1], fun j hj hxj => by simp [p2 j hj hxj], hG vs _ i hx p3⟩⟩
          · obtain ⟨hw, hst⟩ := hearly vs w' i o hin hx ho (fun j hxj hjs hj => p3 j (by have := hlow j hj; omega) hxj (dep j hj)) (fun j hxj hj => hxv j (by have := hlow j hj; omega) hxj (dep j hj))
            rw [if_pos hw]
            refine Oper.wp_mono (fun a'' w'' hh => ?_) hst
            obtain ⟨rfl, rfl⟩ := hh
            refine .inr ⟨hnot, closed' hcl, upd vs i (V i), rfl, hxv', .inr ⟨by simp [hsi, p1], p2, fun j hj hxj hl => ?_⟩⟩
            have hji : j ≠ i := fun e => by rw [e, hx] at hxj; cases hxj
            have : L j = true := by simpa [hji] using hl
            simpa [upd, hji] using p3 j hj hxj this
        | false =>
          rcases hph with ⟨p1, p2, p3⟩ | ⟨p1, p2, p3⟩
          · rw [p2 i hin hx] at hL; cases hL
          · by_cases his : i = s
            · subst his
              have hall : ∀ j, j < n → X j = false → j ≠ i → L j = true := fun j hj hxj hji =>
                reach_of hcl l.length i (fun o' ho' e he hbnd => by rw [ho] at ho'; simp only [Option.some.injEq] at ho'; subst ho'; exact hdep e he hbnd) j (reachS j hj hxj hji).2
              obtain ⟨hw, hst⟩ := hbig vs w' o ho p2 (fun j hj hxj hji => p3 j hj hxj (hall j hj hxj hji)) (fun j hxj hj => hxv j (by have := hlow j hj; omega) hxj (dep j hj))
              rw [if_pos hw]
              refine Oper.wp_mono (fun a'' w'' hh => ?_) hst
              obtain ⟨v, rfl, hg⟩ := hh
              refine .inr ⟨hnot, closed' hcl, upd vs i v, rfl, fun j hj hxj hl => ?_, .inl ⟨by simp, fun j hj hxj => ?_, hg⟩⟩
              · have hji : j ≠ i := fun e => by rw [e, hx] at hxj; cases hxj
                have : L j = true := by simpa [hji] using hl
                simpa [upd, hji] using hxv j hj hxj this
              · by_cases hji : j = i
                · simp [hji]
                · simp [hall j hj hxj hji]
            · have hsi : ¬ s = i := fun e => his e.symm
              obtain ⟨hw, hst⟩ := hstep vs w' i o hin his hx ho p2 (fun j hxj hj => p3 j (by have := hlow j hj; omega) hxj (dep j hj)) (fun j hxj hj => hxv j (by have := hlow j hj; omega) hxj (dep j hj))
              rw [if_pos hw]
              refine Oper.wp_mono (fun a'' w'' hh => ?_) hst
              obtain ⟨v, rfl, hv, hb'⟩ := hh
              refine .inr ⟨hnot, closed' hcl, upd vs i v, rfl, fun j hj hxj hl => ?_, .inr ⟨by simp [hsi, p1], below_step p2 hb' (Nat.le_refl _), fun j hj hxj hl => ?_⟩⟩
              · have hji : j ≠ i := fun e => by rw [e, hx] at hxj; cases hxj
                have : L j = true := by simpa [hji] using hl
                simpa [upd, hji] using hxv j hj hxj this
              · by_cases hji : j = i
                · subst hji; simpa [upd] using hv
                · have : L j = true := by simpa [hji] using hl
                  have h3 := hF j (vs j) w' w'' (p3 j hj hxj this) hb'
                  simpa [upd, hji] using h3
      · have hall : ∀ j, j < i → L j = true := fun j hj => reach_of hcl l.length i (fun o' ho' e he hbnd => by rw [ho] at ho'; simp only [Option.some.injEq] at ho'; subst ho'; exact hdep e he hbnd) j (reach i j hin hi hj)
        have hni : i = n := by
          rcases Nat.lt_or_ge n i with h | h
          · have := hall n h; rw [h1 n (Nat.le_refl _)] at this; cases this
          · omega
        subst hni
        have hg : G vs w' := by
          rcases hph with ⟨p1, p2, p3⟩ | ⟨p1, p2, p3⟩
          · exact p3
          · rw [hall s hs] at p1; cases p1
        refine tail (fun j => ?_) (hend vs w' hg (fun j hj hxj => hxv j hj hxj (hall j hj))) hin _ (fun a w' h => .inl h)
        rcases Nat.lt_or_ge j i with h | h
        · rw [hall j h]; simp [h]
        · rw [h1 j h]
          have : ¬ j < i := by omega
          simp [this]
  · intro L a' w' hJ hall
    have fin : ∀ a w', wpTail P l.toArray Q (l.drop l.length) a w' → Q .normal a w' := by
      intro a w' h
      rw [List.drop_length] at h
      exact h
    rcases hJ with ⟨m, h1, h2, h3, h4⟩ | ⟨h1, hcl, vs, rfl, hxv, hph⟩
    · have hm : m = l.length := by
        rcases Nat.lt_or_ge m l.length with h | h
        · have := hall m h
          rw [h3 m] at this
          simp at this
        · omega
      subst hm
      exact fin _ _ h4
    · rcases Nat.lt_or_ge n l.length with h | h
      · have := hall n h; rw [h1 n (Nat.le_refl _)] at this; cases this
      · have hnl : n = l.length := by omega
        have hg : G vs w' := by
          rcases hph with ⟨p1, p2, p3⟩ | ⟨p1, p2, p3⟩
          · exact p3
          · rw [hall s (by omega)] at p1; cases p1
        have := hend vs w' hg (fun j hj hxj => hxv j hj hxj (hall j (by omega)))
        rw [hnl] at this
        exact fin _ _ this
end Go.Proofs.YtggjheapjklhgaaDoor
