/- A region that draws its order: operations that make memory at most, one operation (number s) that changes memory and waits for all of them, pure operations (X) that come at any time, then a tail in a row. -/
import Derived.Test.YtggjheapjklhgaaInv
namespace Go.Proofs.Ytggjheapjklhgaa
open Go.RowKit
theorem mix2_of {P : Program} {id : Nat} {Q : Exit → Act → World → Prop} {a : Act} {w : World} {l : List Oper} (n s : Nat) (X : Nat → Bool) (V : Nat → Value) {fr : (Nat → Value) → Act} (F : Nat → Value → World → Prop) (G : (Nat → Value) → World → Prop)
    (hm : P.follows .mixedOrders = true) (hd : depsB l = true) (hn : n ≤ l.length) (hs : s < n) (hXs : X s = false)
    (hlast : tailB l n = true) (hbigB : bigB l n s X = true)
    (hfr : ∀ vs, frOf (l.take n) 0 vs a = fr vs) (h0 : ∃ vs, a = fr vs) (hF : ∀ i v w w', F i v w → Below w.heap.size w w' → F i v w')
    (hG : ∀ vs w' i, X i = true → G vs w' → G (upd vs i (V i)) w')
    (hstep : ∀ (vs : Nat → Value) (w' : World) (i : Nat) (o : Oper), i < n → i ≠ s → X i = false → l[i]? = some o → Below w.heap.size w w' → (∀ j, X j = false → (o.after.any fun e => Region.binds .any e && e.on == j) = true → F j (vs j) w') → (∀ j, X j = true → (o.after.any fun e => Region.binds .any e && e.on == j) = true → vs j = V j) →
      Region.wanted o (yielded l.toArray (fr vs).tmps) = true ∧ o.wp P (fr vs) w' (fun a' w'' => ∃ v, a' = fr (upd vs i v) ∧ F i v w'' ∧ Below w'.heap.size w' w'') Q)
    (hearly : ∀ (vs : Nat → Value) (w' : World) (i : Nat) (o : Oper), i < n → X i = true → l[i]? = some o → Below w.heap.size w w' → (∀ j, X j = false → j ≠ s → (o.after.any fun e => Region.binds .any e && e.on == j) = true → F j (vs j) w') → (∀ j, X j = true → (o.after.any fun e => Region.binds .any e && e.on == j) = true → vs j = V j) →
      Region.wanted o (yielded l.toArray (fr vs).tmps) = true ∧ o.wp P (fr vs) w' (fun a' w'' => a' = fr (upd vs i (V i)) ∧ w'' = w') Q)
    (hlate : ∀ (vs : Nat → Value) (w' : World) (i : Nat) (o : Oper), i < n → X i = true → l[i]? = some o → G vs w' → (∀ j, X j = true → (o.after.any fun e => Region.binds .any e && e.on == j) = true → vs j = V j) →
      Region.wanted o (yielded l.toArray (fr vs).tmps) = true ∧ o.wp P (fr vs) w' (fun a' w'' => a' = fr (upd vs i (V i)) ∧ w'' = w') Q)
    (hbig : ∀ (vs : Nat → Value) (w' : World) (o : Oper), l[s]? = some o → Below w.heap.size w w' → (∀ j, j < n → X j = false → j ≠ s → F j (vs j) w') → (∀ j, X j = true → (o.after.any fun e => Region.binds .any e && e.on == j) = true → vs j = V j) →
      Region.wanted o (yielded l.toArray (fr vs).tmps) = true ∧ o.wp P (fr vs) w' (fun a' w'' => ∃ v, a' = fr (upd vs s v) ∧ G (upd vs s v) w'') Q)
    (hend : ∀ (vs : Nat → Value) (w' : World), G vs w' → (∀ j, j < n → X j = true → vs j = V j) → wpTail P l.toArray Q (l.drop n) (fr vs) w') :
    (Code.region id l.toArray true).wp P Q a w := by
  have _ := hfr
  have reach : ∀ m i, n ≤ m → m < l.length → i < m → reachB l l.length m i = true := by
    intro m i h1 h2 h3
    unfold tailB at hlast
    have h4 := List.all_eq_true.1 hlast m (List.mem_range.2 h2)
    have h5 := List.all_eq_true.1 h4 i (List.mem_range.2 h3)
    have h6 : decide (m < n) = false := by simp; omega
    rw [h6, Bool.false_or] at h5
    exact h5
  have reachS : ∀ i, i < n → X i = false → i ≠ s → i < s ∧ reachB l l.length s i = true := by
    intro i h1 h2 h3
    unfold bigB at hbigB
    have h4 := List.all_eq_true.1 hbigB i (List.mem_range.2 h1)
    simp [h2, h3] at h4
    exact h4
  refine wp_region_inv (fun L a w' => (∃ m, n ≤ m ∧ m ≤ l.length ∧ (∀ i, L i = decide (i < m)) ∧ wpTail P l.toArray Q (l.drop m) a w') ∨
    ((∀ i, n ≤ i → L i = false) ∧ (∀ j o, L j = true → l[j]? = some o → ∀ e ∈ o.after, Region.binds .any e = true → L e.on = true) ∧ ∃ vs, a = fr vs ∧ (∀ i, i < n → X i = true → L i = true → vs i = V i) ∧
      ((L s = true ∧ (∀ i, i < n → X i = false → L i = true) ∧ G vs w') ∨ (L s = false ∧ Below w.heap.size w w' ∧ ∀ i, i < n → X i = false → L i = true → F i (vs i) w')))) hm hd ?_ ?_ ?_
  · obtain ⟨vs, h0⟩ := h0
    exact .inr ⟨fun _ _ => rfl, (fun j o h => by cases h), vs, h0, (fun i _ _ h => by cases h), .inr ⟨rfl, below_ofDrewN _ _ 1, fun i _ _ h => (by cases h)⟩⟩
  · intro L a' w' i o hJ ho hL hdep
    have hi : i < l.length := (List.getElem?_eq_some_iff.1 ho).1
    have dep : ∀ j, (o.after.any fun e => Region.binds .any e && e.on == j) = true → L j = true := fun j hj => dep_of hdep j hj
    have hlow : ∀ j, (o.after.any fun e => Region.binds .any e && e.on == j) = true → j < i := by
      intro j hj
      obtain ⟨e, he, hb⟩ := Array.any_eq_true'.1 hj
      simp only [Bool.and_eq_true, beq_iff_eq] at hb
      unfold depsB at hd
      have h1 := List.all_eq_true.1 hd i (List.mem_range.2 (by omega))
      rw [ho] at h1
      simp only at h1
      have h2 := Array.all_eq_true'.1 h1 e he
      have h3 : e.on < i := by simpa [hb.1] using h2
      omega
    have hdrop : l.drop i = o :: l.drop (i + 1) := by
      rw [List.drop_eq_getElem_cons hi]
      have := List.getElem?_eq_getElem hi
      rw [ho] at this
      simp only [Option.some.injEq] at this
      rw [this]
    have closed' : (∀ j o, L j = true → l[j]? = some o → ∀ e ∈ o.after, Region.binds .any e = true → L e.on = true) → (∀ j o, (j == i || L j) = true → l[j]? = some o → ∀ e ∈ o.after, Region.binds .any e = true → (e.on == i || L e.on) = true) := by
      intro hcl j o' hj ho' e he hbnd
      by_cases hji : j = i
      · subst hji
        rw [ho] at ho'
        simp only [Option.some.injEq] at ho'
        subst ho'
        simp [hdep e he hbnd]
      · have : L j = true := by simpa [hji] using hj
        simp [hcl j o' this ho' e he hbnd]
    -- a step of the tail
    have tail : (∀ j, L j = decide (j < i)) → wpTail P l.toArray Q (l.drop i) a' w' → n ≤ i → ∀ R : Act → World → Prop, 
        (∀ a w', (∃ m, n ≤ m ∧ m ≤ l.length ∧ (∀ i_1, (i_1 == i || L i_1) = decide (i_1 < m)) ∧ wpTail P l.toArray Q (l.drop m) a w') → R a w') →
        if Region.wanted o (yielded l.toArray a'.tmps) = true then o.wp P a' w' R Q else R (a'.put o.dst undef) w' := by
      intro h3 h4 hin R hR
      rw [hdrop] at h4
      have hL' : ∀ j, (j == i || L j) = decide (j < i + 1) := by
        intro j
        rw [h3 j]
        rcases Nat.lt_trichotomy j i with h | h | h
        · simp [h]; omega
        · subst h; simp
        · have e1 : ¬ j = i := by omega
          have e2 : ¬ j < i := by omega
          have e3 : ¬ j < i + 1 := by omega
          simp [e1, e2, e3]
      unfold wpTail at h4
      split
      · rename_i hw
        rw [if_pos hw] at h4
        exact Oper.wp_mono (fun a'' w'' hh => hR _ _ ⟨i + 1, by omega, by omega, hL', hh⟩) h4
      · rename_i hw
        rw [if_neg hw] at h4
        exact hR _ _ ⟨i + 1, by omega, by omega, hL', h4⟩
    rcases hJ with ⟨m, h1, h2, h3, h4⟩ | ⟨h1, hcl, vs, rfl, hxv, hph⟩
    · have him : i = m := by
        have e1 : ¬ i < m := by have := h3 i; rw [hL] at this; simpa using this.symm
        rcases Nat.lt_or_ge m i with h | h
        · have hcl : ∀ j o, L j = true → l[j]? = some o → ∀ e ∈ o.after, Region.binds .any e = true → L e.on = true := by
            intro j o' hj ho' e he hbnd
            rw [h3 j] at hj
            have hjm : j < m := by simpa using hj
            unfold depsB at hd
            have q1 := List.all_eq_true.1 hd j (List.mem_range.2 (by omega))
            rw [ho'] at q1
            simp only at q1
            have q2 := Array.all_eq_true'.1 q1 e he
            have q3 : e.on < j := by simpa [hbnd] using q2
            rw [h3 e.on]; simp; omega
          have := reach_of hcl l.length i (fun o' ho' e he hbnd => by rw [ho] at ho'; simp only [Option.some.injEq] at ho'; subst ho'; exact hdep e he hbnd) m (reach i m (by omega) hi h)
          rw [h3 m] at this
          simp at this
        · omega
      subst him
      exact tail h3 h4 h1 _ (fun a w' h => .inl h)
    · rcases Nat.lt_or_ge i n with hin | hin
      · have hnot : ∀ j, n ≤ j → (j == i || L j) = false := fun j hj => by
          have e1 : ¬ j = i := by omega
          simp [e1, h1 j hj]
        cases hx : X i with
        | true =>
          have his : i ≠ s := fun e => by rw [e, hXs] at hx; cases hx
          have hsi : ¬ s = i := fun e => his e.symm
          have hxv' : ∀ j, j < n → X j = true → (j == i || L j) = true → upd vs i (V i) j = V j := by
            intro j hj hxj hl
            by_cases hji : j = i
            · subst hji; simp [upd]
            · have : L j = true := by simpa [hji] using hl
              simpa [upd, hji] using hxv j hj hxj this
          rcases hph with ⟨p1, p2, p3⟩ | ⟨p1, p2, p3⟩
          · obtain ⟨hw, hst⟩ := hlate vs w' i o hin hx ho p3 (fun j hxj hj => hxv j (by have := hlow j hj; omega) hxj (dep j hj))
            rw [if_pos hw]
            refine Oper.wp_mono (fun a'' w'' hh => ?_) hst
            obtain ⟨rfl, rfl⟩ := hh
            exact .inr ⟨hnot, closed' hcl, upd vs i (V i), rfl, hxv', .inl ⟨by simp [p1], fun j hj hxj => by simp [p2 j hj hxj], hG vs _ i hx p3⟩⟩
          · obtain ⟨hw, hst⟩ := hearly vs w' i o hin hx ho p2 (fun j hxj hjs hj => p3 j (by have := hlow j hj; omega) hxj (dep j hj)) (fun j hxj hj => hxv j (by have := hlow j hj; omega) hxj (dep j hj))
            rw [if_pos hw]
            refine Oper.wp_mono (fun a'' w'' hh => ?_) hst
            obtain ⟨rfl, rfl⟩ := hh
            refine .inr ⟨hnot, closed' hcl, upd vs i (V i), rfl, hxv', .inr ⟨by simp [hsi, p1], p2, fun j hj hxj hl => ?_⟩⟩
            have hji : j ≠ i := fun e => by rw [e, hx] at hxj; cases hxj
            have : L j = true := by simpa [hji] using hl
            simpa [upd, hji] using p3 j hj hxj this
        | false =>
          rcases hph with ⟨p1, p2, p3⟩ | ⟨p1, p2, p3⟩
          · rw [p2 i hin hx] at hL; cases hL
          · by_cases his : i = s
            · subst his
              have hall : ∀ j, j < n → X j = false → j ≠ i → L j = true := fun j hj hxj hji =>
                reach_of hcl l.length i (fun o' ho' e he hbnd => by rw [ho] at ho'; simp only [Option.some.injEq] at ho'; subst ho'; exact hdep e he hbnd) j (reachS j hj hxj hji).2
              obtain ⟨hw, hst⟩ := hbig vs w' o ho p2 (fun j hj hxj hji => p3 j hj hxj (hall j hj hxj hji)) (fun j hxj hj => hxv j (by have := hlow j hj; omega) hxj (dep j hj))
              rw [if_pos hw]
              refine Oper.wp_mono (fun a'' w'' hh => ?_) hst
              obtain ⟨v, rfl, hg⟩ := hh
              refine .inr ⟨hnot, closed' hcl, upd vs i v, rfl, fun j hj hxj hl => ?_, .inl ⟨by simp, fun j hj hxj => ?_, hg⟩⟩
              · have hji : j ≠ i := fun e => by rw [e, hx] at hxj; cases hxj
                have : L j = true := by simpa [hji] using hl
                simpa [upd, hji] using hxv j hj hxj this
              · by_cases hji : j = i
                · simp [hji]
                · simp [hall j hj hxj hji]
            · have hsi : ¬ s = i := fun e => his e.symm
              obtain ⟨hw, hst⟩ := hstep vs w' i o hin his hx ho p2 (fun j hxj hj => p3 j (by have := hlow j hj; omega) hxj (dep j hj)) (fun j hxj hj => hxv j (by have := hlow j hj; omega) hxj (dep j hj))
              rw [if_pos hw]
              refine Oper.wp_mono (fun a'' w'' hh => ?_) hst
              obtain ⟨v, rfl, hv, hb'⟩ := hh
              refine .inr ⟨hnot, closed' hcl, upd vs i v, rfl, fun j hj hxj hl => ?_, .inr ⟨by simp [hsi, p1], below_step p2 hb' (Nat.le_refl _), fun j hj hxj hl => ?_⟩⟩
              · have hji : j ≠ i := fun e => by rw [e, hx] at hxj; cases hxj
                have : L j = true := by simpa [hji] using hl
                simpa [upd, hji] using hxv j hj hxj this
              · by_cases hji : j = i
                · subst hji; simpa [upd] using hv
                · have : L j = true := by simpa [hji] using hl
                  have h3 := hF j (vs j) w' w'' (p3 j hj hxj this) hb'
                  simpa [upd, hji] using h3
      · have hall : ∀ j, j < i → L j = true := fun j hj => reach_of hcl l.length i (fun o' ho' e he hbnd => by rw [ho] at ho'; simp only [Option.some.injEq] at ho'; subst ho'; exact hdep e he hbnd) j (reach i j hin hi hj)
        have hni : i = n := by
          rcases Nat.lt_or_ge n i with h | h
          · have := hall n h; rw [h1 n (Nat.le_refl _)] at this; cases this
          · omega
        subst hni
        have hg : G vs w' := by
          rcases hph with ⟨p1, p2, p3⟩ | ⟨p1, p2, p3⟩
          · exact p3
          · rw [hall s hs] at p1; cases p1
        refine tail (fun j => ?_) (hend vs w' hg (fun j hj hxj => hxv j hj hxj (hall j hj))) hin _ (fun a w' h => .inl h)
        rcases Nat.lt_or_ge j i with h | h
        · rw [hall j h]; simp [h]
        · rw [h1 j h]
          have : ¬ j < i := by omega
          simp [this]
  · intro L a' w' hJ hall
    have fin : ∀ a w', wpTail P l.toArray Q (l.drop l.length) a w' → Q .normal a w' := by
      intro a w' h
      rw [List.drop_length] at h
      exact h
    rcases hJ with ⟨m, h1, h2, h3, h4⟩ | ⟨h1, hcl, vs, rfl, hxv, hph⟩
    · have hm : m = l.length := by
        rcases Nat.lt_or_ge m l.length with h | h
        · have := hall m h
          rw [h3 m] at this
          simp at this
        · omega
      subst hm
      exact fin _ _ h4
    · rcases Nat.lt_or_ge n l.length with h | h
      · have := hall n h; rw [h1 n (Nat.le_refl _)] at this; cases this
      · have hnl : n = l.length := by omega
        have hg : G vs w' := by
          rcases hph with ⟨p1, p2, p3⟩ | ⟨p1, p2, p3⟩
          · exact p3
          · rw [hall s (by omega)] at p1; cases p1
        have := hend vs w' hg (fun j hj hxj => hxv j hj hxj (hall j (by omega)))
        rw [hnl] at this
        exact fin _ _ this
end Go.Proofs.Ytggjheapjklhgaa
