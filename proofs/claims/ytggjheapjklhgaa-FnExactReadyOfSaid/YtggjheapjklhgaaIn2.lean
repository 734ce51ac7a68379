/- A region that draws its order, whose operations make memory at most but the last two, which come one behind the other. -/
import Derived.Test.YtggjheapjklhgaaInv
namespace Go.Proofs.Ytggjheapjklhgaa
open Go.RowKit

theorem wp_region_grow2 {P : Program} {id : Nat} {Q : Exit → Act → World → Prop} {a : Act} {w : World} {l : List Oper} (n : Nat) (fr : (Nat → Value) → Act) (F : Nat → Value → World → Prop) (hm : P.follows .mixedOrders = true) (hd : depsB l = true) (hn : l.length = n + 2)
    (hlast : ∀ o, l[n]? = some o → ∀ i, i < n → (o.after.any fun e => Region.binds .any e && e.on == i) = true)
    (hlast2 : ∀ o, l[n + 1]? = some o → ∀ i, i < n + 1 → (o.after.any fun e => Region.binds .any e && e.on == i) = true)
    (hF : ∀ i v w w', F i v w → Below w.heap.size w w' → F i v w') (h0 : ∃ vs, a = fr vs)
    (hstep : ∀ (vs : Nat → Value) (w' : World) (i : Nat) (o : Oper), i < n → l[i]? = some o → Below w.heap.size w w' → (∀ j, (o.after.any fun e => Region.binds .any e && e.on == j) = true → F j (vs j) w') →
      Region.wanted o (yielded l.toArray (fr vs).tmps) = true ∧ o.wp P (fr vs) w' (fun a' w'' => ∃ v, a' = fr (upd vs i v) ∧ F i v w'' ∧ Below w'.heap.size w' w'') Q)
    (hend : ∀ (vs : Nat → Value) (w' : World) (o o2 : Oper), l[n]? = some o → l[n + 1]? = some o2 → Below w.heap.size w w' → (∀ j, j < n → F j (vs j) w') →
      Region.wanted o (yielded l.toArray (fr vs).tmps) = true ∧ o.wp P (fr vs) w' (fun a' w'' => Region.wanted o2 (yielded l.toArray a'.tmps) = true ∧ o2.wp P a' w'' (fun a'' w3 => Q .normal a'' w3) Q) Q) :
    (Code.region id l.toArray true).wp P Q a w := by
  obtain ⟨o2, ho2⟩ : ∃ o2, l[n + 1]? = some o2 := ⟨l[n + 1]'(by omega), List.getElem?_eq_getElem _⟩
  refine wp_region_inv (fun L a w' => (L (n + 1) = true ∧ (∀ i, i < n + 2 → L i = true) ∧ Q .normal a w') ∨ (L (n + 1) = false ∧ L n = true ∧ (∀ i, i < n → L i = true) ∧ Region.wanted o2 (yielded l.toArray a.tmps) = true ∧ o2.wp P a w' (fun a'' w3 => Q .normal a'' w3) Q) ∨
    (L (n + 1) = false ∧ L n = false ∧ ∃ vs, a = fr vs ∧ Below w.heap.size w w' ∧ ∀ i, i < n → L i = true → F i (vs i) w')) hm hd ?_ ?_ ?_
  · obtain ⟨vs, rfl⟩ := h0
    exact .inr (.inr ⟨rfl, rfl, vs, rfl, below_ofDrewN _ _ 1, fun i _ h => by cases h⟩)
  · intro L a' w' i o hJ ho hL hdep
    have hi : i < n + 2 := by rw [← hn]; exact (List.getElem?_eq_some_iff.1 ho).1
    have dep : ∀ j, (o.after.any fun e => Region.binds .any e && e.on == j) = true → L j = true := fun j hj => dep_of hdep j hj
    rcases hJ with ⟨h1, h2, _⟩ | ⟨h1, h2, h3, hw, hs⟩ | ⟨h1, h2, vs, rfl, hb, hf⟩
    · rw [h2 i hi] at hL; cases hL
    · rcases Nat.lt_trichotomy i n with hin | hin | hin
      · rw [h3 i hin] at hL; cases hL
      · subst hin; rw [h2] at hL; cases hL
      · have hin' : i = n + 1 := by omega
        subst hin'
        have hoo : o = o2 := by rw [ho2] at ho; simpa using ho.symm
        subst hoo
        rw [if_pos hw]
        refine Oper.wp_mono (fun a'' w'' hh => ?_) hs
        refine .inl ⟨by simp, fun j hj => ?_, hh⟩
        rcases Nat.lt_trichotomy j n with hjn | hjn | hjn
        · simp [h3 j hjn]
        · subst hjn; simp [h2]
        · have : j = n + 1 := by omega
          simp [this]
    · rcases Nat.lt_trichotomy i n with hin | hin | hin
      · have hlow : ∀ j, (o.after.any fun e => Region.binds .any e && e.on == j) = true → j < n := by
          intro j hj
          obtain ⟨e, he, hb⟩ := Array.any_eq_true'.1 hj
          simp only [Bool.and_eq_true, beq_iff_eq] at hb
          unfold depsB at hd
          have h1 := List.all_eq_true.1 hd i (List.mem_range.2 (by omega))
          rw [ho] at h1
          simp only at h1
          have h2 := Array.all_eq_true'.1 h1 e he
          have h3 : e.on < i := by simpa [hb.1] using h2
          omega
        obtain ⟨hw, hs⟩ := hstep vs w' i o hin ho hb (fun j hj => hf j (hlow j hj) (dep j hj))
        rw [if_pos hw]
        refine Oper.wp_mono (fun a'' w'' hh => ?_) hs
        obtain ⟨v, rfl, hv, hb'⟩ := hh
        refine .inr (.inr ⟨by simp [h1]; omega, by simp [h2]; omega, upd vs i v, rfl, below_step hb hb' (Nat.le_refl _), fun j hj hl => ?_⟩)
        by_cases hji : j = i
        · subst hji; simpa [upd] using hv
        · have : L j = true := by simpa [hji] using hl
          have h3 := hF j (vs j) w' w'' (hf j hj this) hb'
          simpa [upd, hji] using h3
      · subst hin
        have hall : ∀ j, j < i → L j = true := fun j hj => dep j (hlast o ho j hj)
        obtain ⟨hw, hs⟩ := hend vs w' o o2 ho ho2 hb (fun j hj => hf j hj (hall j hj))
        rw [if_pos hw]
        refine Oper.wp_mono (fun a'' w'' hh => ?_) hs
        exact .inr (.inl ⟨by simp [h1], by simp, fun j hj => by simp [hall j hj], hh.1, hh.2⟩)
      · have hin' : i = n + 1 := by omega
        subst hin'
        have := dep n (hlast2 o ho n (by omega))
        rw [h2] at this; cases this
  · intro L a' w' hJ hall
    rcases hJ with ⟨_, _, h⟩ | ⟨h1, _⟩ | ⟨h1, _⟩
    · exact h
    · rw [hall (n + 1) (by omega)] at h1; cases h1
    · rw [hall (n + 1) (by omega)] at h1; cases h1
theorem grow2_of {P : Program} {id : Nat} {Q : Exit → Act → World → Prop} {a : Act} {w : World} {l : List Oper} (n : Nat) {fr : (Nat → Value) → Act} (F : Nat → Value → World → Prop) (hm : P.follows .mixedOrders = true) (hd : depsB l = true) (hn : l.length = n + 2)
    (hlast : ∀ o, l[n]? = some o → ∀ i, i < n → (o.after.any fun e => Region.binds .any e && e.on == i) = true)
    (hlast2 : ∀ o, l[n + 1]? = some o → ∀ i, i < n + 1 → (o.after.any fun e => Region.binds .any e && e.on == i) = true)
    (hfr : ∀ vs, frOf (l.take n) 0 vs a = fr vs) (h0 : ∃ vs, a = fr vs) (hF : ∀ i v w w', F i v w → Below w.heap.size w w' → F i v w')
    (hstep : ∀ (vs : Nat → Value) (w' : World) (i : Nat) (o : Oper), i < n → l[i]? = some o → Below w.heap.size w w' → (∀ j, (o.after.any fun e => Region.binds .any e && e.on == j) = true → F j (vs j) w') →
      Region.wanted o (yielded l.toArray (fr vs).tmps) = true ∧ o.wp P (fr vs) w' (fun a' w'' => ∃ v, a' = fr (upd vs i v) ∧ F i v w'' ∧ Below w'.heap.size w' w'') Q)
    (hend : ∀ (vs : Nat → Value) (w' : World) (o o2 : Oper), l[n]? = some o → l[n + 1]? = some o2 → Below w.heap.size w w' → (∀ j, j < n → F j (vs j) w') →
      Region.wanted o (yielded l.toArray (fr vs).tmps) = true ∧ o.wp P (fr vs) w' (fun a' w'' => Region.wanted o2 (yielded l.toArray a'.tmps) = true ∧ o2.wp P a' w'' (fun a'' w3 => Q .normal a'' w3) Q) Q) :
    (Code.region id l.toArray true).wp P Q a w :=
  have _ := hfr
  wp_region_grow2 n fr F hm hd hn hlast hlast2 hF h0 hstep hend
end Go.Proofs.Ytggjheapjklhgaa
