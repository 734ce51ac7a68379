/- A region that draws its order: each operation yields one value in whatever order; one of them stores. -/
import Derived.Test.YtggjheapjklhgaaInv
namespace Go.Proofs.Ytggjheapjklhgaa
open Go.RowKit

theorem fix_of {P : Program} {id : Nat} {Q : Exit → Act → World → Prop} {a : Act} {w : World} {l : List Oper} (s : Nat) (V : Nat → Value) (W1 : World) {fr : (Nat → Value) → Act} (hm : P.follows .mixedOrders = true) (hd : depsB l = true) (hs : s < l.length)
    (hfr : ∀ vs, frOf l 0 vs a = fr vs) (h0 : ∃ vs, a = fr vs)
    (hstep : ∀ (vs : Nat → Value) (w' : World) (i : Nat) (o : Oper), l[i]? = some o → i ≠ s → (w' = w.drew ∨ w' = W1) → (∀ j, (o.after.any fun e => Region.binds .any e && e.on == j) = true → vs j = V j) →
      Region.wanted o (yielded l.toArray (fr vs).tmps) = true ∧ o.wp P (fr vs) w' (fun a' w'' => a' = fr (upd vs i (V i)) ∧ w'' = w') Q)
    (hstore : ∀ (vs : Nat → Value) (o : Oper), l[s]? = some o → (∀ j, (o.after.any fun e => Region.binds .any e && e.on == j) = true → vs j = V j) →
      Region.wanted o (yielded l.toArray (fr vs).tmps) = true ∧ o.wp P (fr vs) w.drew (fun a' w'' => a' = fr (upd vs s (V s)) ∧ w'' = W1) Q)
    (hend : ∀ (vs : Nat → Value), (∀ j, j < l.length → vs j = V j) → Q .normal (fr vs) W1) :
    (Code.region id l.toArray true).wp P Q a w := by
  have _ := hfr
  refine wp_region_inv (fun L a w' => ∃ vs, a = fr vs ∧ (∀ i, L i = true → vs i = V i) ∧ w' = if L s = true then W1 else w.drew) hm hd ?_ ?_ ?_
  · obtain ⟨vs, rfl⟩ := h0
    exact ⟨vs, rfl, (fun i h => by cases h), rfl⟩
  · intro L a' w' i o hJ ho hL hdep
    obtain ⟨vs, rfl, hv, hw'⟩ := hJ
    have dep : ∀ j, (o.after.any fun e => Region.binds .any e && e.on == j) = true → vs j = V j := fun j hj => hv j (dep_of hdep j hj)
    have upds : ∀ j, (j == i || L j) = true → upd vs i (V i) j = V j := by
      intro j hj
      by_cases hji : j = i
      · subst hji; simp [upd]
      · have : L j = true := by simpa [hji] using hj
        simpa [upd, hji] using hv j this
    by_cases his : i = s
    · subst his
      rw [hL] at hw'
      simp only [Bool.false_eq_true, if_false] at hw'
      subst hw'
      obtain ⟨hw, hst⟩ := hstore vs o ho dep
      rw [if_pos hw]
      refine Oper.wp_mono (fun a'' w'' hh => ?_) hst
      obtain ⟨rfl, rfl⟩ := hh
      exact ⟨_, rfl, upds, by simp⟩
    · have hsi : (s == i) = false := by simp; exact fun e => his e.symm
      obtain ⟨hw, hst⟩ := hstep vs w' i o ho his (by rw [hw']; split <;> simp) dep
      rw [if_pos hw]
      refine Oper.wp_mono (fun a'' w'' hh => ?_) hst
      obtain ⟨rfl, rfl⟩ := hh
      exact ⟨_, rfl, upds, by show _ = if (s == i || L s) = true then W1 else w.drew; rw [hsi, Bool.false_or]; exact hw'⟩
  · intro L a' w' hJ hall
    obtain ⟨vs, rfl, hv, hw'⟩ := hJ
    rw [hall s hs] at hw'
    simp only [if_true] at hw'
    subst hw'
    exact hend vs (fun j hj => hv j (hall j hj))
end Go.Proofs.Ytggjheapjklhgaa
