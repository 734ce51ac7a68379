/- A region that draws its order and changes memory within an invariant 'I' and step by step within 'R': every operation yields a value with 'F' at its world, which 'R' keeps; the tail's operations come in a row. -/
import Derived.Test.YtggjheapjklhgaaInv
namespace Go.Proofs.Ytggjheapjklhgaa
open Go.RowKit
theorem invS_of {P : Program} {id : Nat} {Q : Exit → Act → World → Prop} {a : Act} {w : World} {l : List Oper} (n : Nat) {fr : (Nat → Value) → Act} (F : Nat → Value → World → Prop) (I : World → Prop) (R : World → World → Prop) (hm : P.follows .mixedOrders = true) (hd : depsB l = true) (hn : n ≤ l.length)
    (hlast : tailB l n = true)
    (hfr : ∀ vs, frOf (l.take n) 0 vs a = fr vs) (h0 : ∃ vs, a = fr vs) (hI : I (w.drewN 1)) (hF : ∀ (i : Nat) (v : Value) (w' w'' : World), F i v w' → I w' → R w' w'' → F i v w'')
    (hstep : ∀ (vs : Nat → Value) (w' : World) (i : Nat) (o : Oper), i < n → l[i]? = some o → I w' → (∀ j, (o.after.any fun e => Region.binds .any e && e.on == j) = true → F j (vs j) w') →
      Region.wanted o (yielded l.toArray (fr vs).tmps) = true ∧ o.wp P (fr vs) w' (fun a' w'' => ∃ v, a' = fr (upd vs i v) ∧ F i v w'' ∧ I w'' ∧ R w' w'') Q)
    (hend : ∀ (vs : Nat → Value) (w' : World), I w' → (∀ j, j < n → F j (vs j) w') → wpTail P l.toArray Q (l.drop n) (fr vs) w') :
    (Code.region id l.toArray true).wp P Q a w := by
  have _ := hfr
  have reach : ∀ m i, n ≤ m → m < l.length → i < m → reachB l l.length m i = true := by
    intro m i h1 h2 h3
    unfold tailB at hlast
    have h4 := List.all_eq_true.1 hlast m (List.mem_range.2 h2)
    have h5 := List.all_eq_true.1 h4 i (List.mem_range.2 h3)
    have h6 : decide (m < n) = false := by simp; omega
    rw [h6, Bool.false_or] at h5
    exact h5
  refine wp_region_inv (fun L a w' => (∃ m, n ≤ m ∧ m ≤ l.length ∧ (∀ i, L i = decide (i < m)) ∧ wpTail P l.toArray Q (l.drop m) a w') ∨
    ((∀ i, n ≤ i → L i = false) ∧ (∀ j o, L j = true → l[j]? = some o → ∀ e ∈ o.after, Region.binds .any e = true → L e.on = true) ∧ ∃ vs, a = fr vs ∧ I w' ∧ (∀ i, i < n → L i = true → F i (vs i) w'))) hm hd ?_ ?_ ?_
  · obtain ⟨vs, h0⟩ := h0
    exact .inr ⟨fun _ _ => rfl, (fun j o h => by cases h), vs, h0, hI, fun i _ h => (by cases h)⟩
  · intro L a' w' i o hJ ho hL hdep
    have hi : i < l.length := (List.getElem?_eq_some_iff.1 ho).1
    have dep : ∀ j, (o.after.any fun e => Region.binds .any e && e.on == j) = true → L j = true := fun j hj => dep_of hdep j hj
    have hdrop : l.drop i = o :: l.drop (i + 1) := by
      rw [List.drop_eq_getElem_cons hi]
      have := List.getElem?_eq_getElem hi
      rw [ho] at this
      simp only [Option.some.injEq] at this
      rw [this]
    -- one step of the tail
    have tail : (∀ j, L j = decide (j < i)) → wpTail P l.toArray Q (l.drop i) a' w' → n ≤ i →
        if Region.wanted o (yielded l.toArray a'.tmps) = true then o.wp P a' w' (fun a w' => (∃ m, n ≤ m ∧ m ≤ l.length ∧ (∀ i_1, (i_1 == i || L i_1) = decide (i_1 < m)) ∧ wpTail P l.toArray Q (l.drop m) a w') ∨
          ((∀ j, n ≤ j → (j == i || L j) = false) ∧ (∀ j o, (j == i || L j) = true → l[j]? = some o → ∀ e ∈ o.after, Region.binds .any e = true → (e.on == i || L e.on) = true) ∧ ∃ vs, a = fr vs ∧ I w' ∧ (∀ j, j < n → (j == i || L j) = true → F j (vs j) w'))) Q
        else (∃ m, n ≤ m ∧ m ≤ l.length ∧ (∀ i_1, (i_1 == i || L i_1) = decide (i_1 < m)) ∧ wpTail P l.toArray Q (l.drop m) (a'.put o.dst undef) w') ∨
          ((∀ j, n ≤ j → (j == i || L j) = false) ∧ (∀ j o, (j == i || L j) = true → l[j]? = some o → ∀ e ∈ o.after, Region.binds .any e = true → (e.on == i || L e.on) = true) ∧ ∃ vs, a'.put o.dst undef = fr vs ∧ I w' ∧ (∀ j, j < n → (j == i || L j) = true → F j (vs j) w')) := by
      intro h3 h4 hin
      rw [hdrop] at h4
      have hL' : ∀ j, (j == i || L j) = decide (j < i + 1) := by
        intro j
        rw [h3 j]
        rcases Nat.lt_trichotomy j i with h | h | h
        · simp [h]; omega
        · subst h; simp
        · have e1 : ¬ j = i := by omega
          have e2 : ¬ j < i := by omega
          have e3 : ¬ j < i + 1 := by omega
          simp [e1, e2, e3]
      unfold wpTail at h4
      split
      · rename_i hw
        rw [if_pos hw] at h4
        exact Oper.wp_mono (fun a'' w'' hh => .inl ⟨i + 1, by omega, by omega, hL', hh⟩) h4
      · rename_i hw
        rw [if_neg hw] at h4
        exact .inl ⟨i + 1, by omega, by omega, hL', h4⟩
    rcases hJ with ⟨m, h1, h2, h3, h4⟩ | ⟨h1, hcl, vs, rfl, hb, hf⟩
    · have him : i = m := by
        have e1 : ¬ i < m := by have := h3 i; rw [hL] at this; simpa using this.symm
        rcases Nat.lt_or_ge m i with h | h
        · have hcl : ∀ j o, L j = true → l[j]? = some o → ∀ e ∈ o.after, Region.binds .any e = true → L e.on = true := by
            intro j o' hj ho' e he hbnd
            rw [h3 j] at hj
            have hjm : j < m := by simpa using hj
            unfold depsB at hd
            have q1 := List.all_eq_true.1 hd j (List.mem_range.2 (by omega))
            rw [ho'] at q1
            simp only at q1
            have q2 := Array.all_eq_true'.1 q1 e he
            have q3 : e.on < j := by simpa [hbnd] using q2
            rw [h3 e.on]; simp; omega
          have := reach_of hcl l.length i (fun o' ho' e he hbnd => by rw [ho] at ho'; simp only [Option.some.injEq] at ho'; subst ho'; exact hdep e he hbnd) m (reach i m (by omega) hi h)
          rw [h3 m] at this
          simp at this
        · omega
      subst him
      exact tail h3 h4 h1
    · rcases Nat.lt_or_ge i n with hin | hin
      · have hlow : ∀ j, (o.after.any fun e => Region.binds .any e && e.on == j) = true → j < n := by
          intro j hj
          obtain ⟨e, he, hb⟩ := Array.any_eq_true'.1 hj
          simp only [Bool.and_eq_true, beq_iff_eq] at hb
          unfold depsB at hd
          have h1 := List.all_eq_true.1 hd i (List.mem_range.2 (by omega))
          rw [ho] at h1
          simp only at h1
          have h2 := Array.all_eq_true'.1 h1 e he
          have h3 : e.on < i := by simpa [hb.1] using h2
          omega
        obtain ⟨hw, hs⟩ := hstep vs w' i o hin ho hb (fun j hj => hf j (hlow j hj) (dep j hj))
        rw [if_pos hw]
        refine Oper.wp_mono (fun a'' w'' hh => ?_) hs
        obtain ⟨v, rfl, hv, hb', hR⟩ := hh
        refine .inr ⟨fun j hj => by
          have e1 : ¬ j = i := by omega
          simp [e1, h1 j hj], fun j o' hj ho' e he hbnd => ?_, upd vs i v, rfl, hb', fun j hj hl => ?_⟩
        · by_cases hji : j = i
          · subst hji
            rw [ho] at ho'
            simp only [Option.some.injEq] at ho'
            subst ho'
            simp [hdep e he hbnd]
          · have : L j = true := by simpa [hji] using hj
            simp [hcl j o' this ho' e he hbnd]
        · by_cases hji : j = i
          · subst hji; simpa [upd] using hv
          · have : L j = true := by simpa [hji] using hl
            simpa [upd, hji] using hF j _ _ _ (hf j hj this) hb hR
      · have hall : ∀ j, j < i → L j = true := fun j hj => reach_of hcl l.length i (fun o' ho' e he hbnd => by rw [ho] at ho'; simp only [Option.some.injEq] at ho'; subst ho'; exact hdep e he hbnd) j (reach i j hin hi hj)
        have hni : i = n := by
          rcases Nat.lt_or_ge n i with h | h
          · have := hall n h; rw [h1 n (Nat.le_refl _)] at this; cases this
          · omega
        subst hni
        refine tail (fun j => ?_) (hend vs w' hb (fun j hj => hf j hj (hall j hj))) hin
        rcases Nat.lt_or_ge j i with h | h
        · rw [hall j h]; simp [h]
        · rw [h1 j h]
          have : ¬ j < i := by omega
          simp [this]
  · intro L a' w' hJ hall
    have fin : ∀ a w', wpTail P l.toArray Q (l.drop l.length) a w' → Q .normal a w' := by
      intro a w' h
      rw [List.drop_length] at h
      exact h
    rcases hJ with ⟨m, h1, h2, h3, h4⟩ | ⟨h1, hcl, vs, rfl, hb, hf⟩
    · have hm : m = l.length := by
        rcases Nat.lt_or_ge m l.length with h | h
        · have := hall m h
          rw [h3 m] at this
          simp at this
        · omega
      subst hm
      exact fin _ _ h4
    · rcases Nat.lt_or_ge n l.length with h | h
      · have := hall n h; rw [h1 n (Nat.le_refl _)] at this; cases this
      · have hnl : n = l.length := by omega
        have := hend vs w' hb (fun j hj => hf j hj (hall j (by omega)))
        rw [hnl] at this
        exact fin _ _ this
end Go.Proofs.Ytggjheapjklhgaa
