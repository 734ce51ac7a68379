/- A region that draws its order: operations that make memory at most, a store (number s) that waits for all of them but number x, then a last one. Number x, which only reads slots, may come behind the store. -/
import Derived.Test.YtggjheapjklhgaaIn2
namespace Go.Proofs.Ytggjheapjklhgaa
open Go.RowKit

theorem grow3_of {P : Program} {id : Nat} {Q : Exit → Act → World → Prop} {a : Act} {w : World} {l : List Oper} (s x : Nat) (X : Value) {fr : (Nat → Value) → Act} (F : Nat → Value → World → Prop) (G : (Nat → Value) → World → Prop) (hm : P.follows .mixedOrders = true) (hd : depsB l = true) (hn : l.length = s + 2) (hxs : x < s)
    (hlast : ∀ o, l[s]? = some o → ∀ i, i < s → i ≠ x → (o.after.any fun e => Region.binds .any e && e.on == i) = true)
    (hlast2 : ∀ o, l[s + 1]? = some o → ∀ i, i < s + 1 → (o.after.any fun e => Region.binds .any e && e.on == i) = true)
    (hfr : ∀ vs, frOf (l.take s) 0 vs a = fr vs) (h0 : ∃ vs, a = fr vs) (hF : ∀ i v w w', F i v w → Below w.heap.size w w' → F i v w') (hX : ∀ v w, F x v w → v = X)
    (hstep : ∀ (vs : Nat → Value) (w' : World) (i : Nat) (o : Oper), i < s → l[i]? = some o → Below w.heap.size w w' → (∀ j, (o.after.any fun e => Region.binds .any e && e.on == j) = true → F j (vs j) w') →
      Region.wanted o (yielded l.toArray (fr vs).tmps) = true ∧ o.wp P (fr vs) w' (fun a' w'' => ∃ v, a' = fr (upd vs i v) ∧ F i v w'' ∧ Below w'.heap.size w' w'') Q)
    (hstore : ∀ (vs : Nat → Value) (w' : World) (o : Oper), l[s]? = some o → Below w.heap.size w w' → (∀ j, j < s → j ≠ x → F j (vs j) w') →
      Region.wanted o (yielded l.toArray (fr vs).tmps) = true ∧ o.wp P (fr vs) w' (fun a' w'' => a' = fr vs ∧ G vs w'') Q)
    (hlate : ∀ (vs : Nat → Value) (w' : World) (o : Oper), l[x]? = some o → G vs w' →
      Region.wanted o (yielded l.toArray (fr vs).tmps) = true ∧ o.wp P (fr vs) w' (fun a' w'' => a' = fr (upd vs x X) ∧ G (upd vs x X) w'') Q)
    (hend : ∀ (vs : Nat → Value) (w' : World) (o : Oper), l[s + 1]? = some o → G vs w' → vs x = X →
      Region.wanted o (yielded l.toArray (fr vs).tmps) = true ∧ o.wp P (fr vs) w' (fun a' w'' => Q .normal a' w'') Q) :
    (Code.region id l.toArray true).wp P Q a w := by
  have _ := hfr
  refine wp_region_inv (fun L a w' => (L (s + 1) = true ∧ (∀ i, i < s + 2 → L i = true) ∧ Q .normal a w') ∨ (L (s + 1) = false ∧ L s = true ∧ (∀ i, i < s → i ≠ x → L i = true) ∧ ∃ vs, a = fr vs ∧ G vs w' ∧ (L x = true → vs x = X)) ∨
    (L (s + 1) = false ∧ L s = false ∧ ∃ vs, a = fr vs ∧ Below w.heap.size w w' ∧ ∀ i, i < s → L i = true → F i (vs i) w')) hm hd ?_ ?_ ?_
  · obtain ⟨vs, rfl⟩ := h0
    exact .inr (.inr ⟨rfl, rfl, vs, rfl, below_ofDrewN _ _ 1, fun i _ h => by cases h⟩)
  · intro L a' w' i o hJ ho hL hdep
    have hi : i < s + 2 := by rw [← hn]; exact (List.getElem?_eq_some_iff.1 ho).1
    have dep : ∀ j, (o.after.any fun e => Region.binds .any e && e.on == j) = true → L j = true := fun j hj => dep_of hdep j hj
    rcases hJ with ⟨h1, h2, _⟩ | ⟨h1, h2, h3, vs, rfl, hg, hx⟩ | ⟨h1, h2, vs, rfl, hb, hf⟩
    · rw [h2 i hi] at hL; cases hL
    · by_cases hix : i = x
      · subst hix
        obtain ⟨hw, hs⟩ := hlate vs w' o ho hg
        rw [if_pos hw]
        refine Oper.wp_mono (fun a'' w'' hh => ?_) hs
        obtain ⟨rfl, hg'⟩ := hh
        exact .inr (.inl ⟨by simp [h1]; omega, by simp [h2], fun j hj hjx => by simp [h3 j hj hjx], upd vs i X, rfl, hg', fun _ => by simp [upd]⟩)
      · rcases Nat.lt_trichotomy i s with hin | hin | hin
        · rw [h3 i hin hix] at hL; cases hL
        · subst hin; rw [h2] at hL; cases hL
        · have hin' : i = s + 1 := by omega
          subst hin'
          have hxx := dep x (hlast2 o ho x (by omega))
          obtain ⟨hw, hs⟩ := hend vs w' o ho hg (hx hxx)
          rw [if_pos hw]
          refine Oper.wp_mono (fun a'' w'' hh => ?_) hs
          refine .inl ⟨by simp, fun j hj => ?_, hh⟩
          rcases Nat.lt_trichotomy j s with hjn | hjn | hjn
          · by_cases hjx : j = x
            · subst hjx; simp [hxx]
            · simp [h3 j hjn hjx]
          · subst hjn; simp [h2]
          · have : j = s + 1 := by omega
            simp [this]
    · rcases Nat.lt_trichotomy i s with hin | hin | hin
      · have hlow : ∀ j, (o.after.any fun e => Region.binds .any e && e.on == j) = true → j < s := by
          intro j hj
          obtain ⟨e, he, hb⟩ := Array.any_eq_true'.1 hj
          simp only [Bool.and_eq_true, beq_iff_eq] at hb
          unfold depsB at hd
          have h1 := List.all_eq_true.1 hd i (List.mem_range.2 (by omega))
          rw [ho] at h1
          simp only at h1
          have h2 := Array.all_eq_true'.1 h1 e he
          have h3 : e.on < i := by simpa [hb.1] using h2
          omega
        obtain ⟨hw, hs⟩ := hstep vs w' i o hin ho hb (fun j hj => hf j (hlow j hj) (dep j hj))
        rw [if_pos hw]
        refine Oper.wp_mono (fun a'' w'' hh => ?_) hs
        obtain ⟨v, rfl, hv, hb'⟩ := hh
        refine .inr (.inr ⟨by simp [h1]; omega, by simp [h2]; omega, upd vs i v, rfl, below_step hb hb' (Nat.le_refl _), fun j hj hl => ?_⟩)
        by_cases hji : j = i
        · subst hji; simpa [upd] using hv
        · have : L j = true := by simpa [hji] using hl
          have h3 := hF j (vs j) w' w'' (hf j hj this) hb'
          simpa [upd, hji] using h3
      · subst hin
        have hall : ∀ j, j < i → j ≠ x → L j = true := fun j hj hjx => dep j (hlast o ho j hj hjx)
        obtain ⟨hw, hs⟩ := hstore vs w' o ho hb (fun j hj hjx => hf j hj (hall j hj hjx))
        rw [if_pos hw]
        refine Oper.wp_mono (fun a'' w'' hh => ?_) hs
        obtain ⟨rfl, hg⟩ := hh
        refine .inr (.inl ⟨by simp [h1], by simp, fun j hj hjx => by simp [hall j hj hjx], vs, rfl, hg, fun hl => ?_⟩)
        have : L x = true := by
          have hne : x ≠ i := by omega
          simpa [hne] using hl
        exact hX _ _ (hf x hxs this)
      · have hin' : i = s + 1 := by omega
        subst hin'
        have := dep s (hlast2 o ho s (by omega))
        rw [h2] at this; cases this
  · intro L a' w' hJ hall
    rcases hJ with ⟨_, _, h⟩ | ⟨h1, _⟩ | ⟨h1, _⟩
    · exact h
    · rw [hall (s + 1) (by omega)] at h1; cases h1
    · rw [hall (s + 1) (by omega)] at h1; cases h1
end Go.Proofs.Ytggjheapjklhgaa
