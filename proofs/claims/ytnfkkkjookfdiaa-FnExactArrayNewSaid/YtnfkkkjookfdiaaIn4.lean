/- A region that draws its order, as in grow_of, with something known of the values together (D): two pieces of new memory lie apart. -/
import Derived.Test.YtnfkkkjookfdiaaInv
namespace Go.Proofs.Ytnfkkkjookfdiaa
open Go.RowKit

theorem grow4_of {P : Program} {id : Nat} {Q : Exit → Act → World → Prop} {a : Act} {w : World} {l : List Oper} (n : Nat) {fr : (Nat → Value) → Act} (F : Nat → Value → World → Prop) (D : (Nat → Value) → Prop) (hm : P.follows .mixedOrders = true) (hd : depsB l = true) (hn : l.length = n + 1)
    (hlast : ∀ o, l[n]? = some o → ∀ i, i < n → (o.after.any fun e => Region.binds .any e && e.on == i) = true)
    (hfr : ∀ vs, frOf (l.take n) 0 vs a = fr vs) (h0 : a = fr (fun _ => undef)) (hD0 : D (fun _ => undef)) (hF : ∀ i v w w', F i v w → Below w.heap.size w w' → F i v w')
    (hstep : ∀ (vs : Nat → Value) (w' : World) (i : Nat) (o : Oper), i < n → l[i]? = some o → Below w.heap.size w w' → D vs → (∀ j, j < n → vs j = undef ∨ F j (vs j) w') → (∀ j, (o.after.any fun e => Region.binds .any e && e.on == j) = true → F j (vs j) w') →
      Region.wanted o (yielded l.toArray (fr vs).tmps) = true ∧ o.wp P (fr vs) w' (fun a' w'' => ∃ v, a' = fr (upd vs i v) ∧ F i v w'' ∧ Below w'.heap.size w' w'' ∧ D (upd vs i v)) Q)
    (hend : ∀ (vs : Nat → Value) (w' : World) (o : Oper), l[n]? = some o → Below w.heap.size w w' → D vs → (∀ j, j < n → F j (vs j) w') → Region.wanted o (yielded l.toArray (fr vs).tmps) = true ∧ o.wp P (fr vs) w' (fun a' w'' => Q .normal a' w'') Q) :
    (Code.region id l.toArray true).wp P Q a w := by
  have _ := hfr
  refine wp_region_inv (fun L a w' => (L n = true ∧ (∀ i, i < n → L i = true) ∧ Q .normal a w') ∨ (L n = false ∧ ∃ vs, a = fr vs ∧ Below w.heap.size w w' ∧ D vs ∧ (∀ i, i < n → L i = true → F i (vs i) w') ∧ ∀ i, i < n → L i = false → vs i = undef)) hm hd ?_ ?_ ?_
  · exact .inr ⟨rfl, _, h0, below_ofDrewN _ _ 1, hD0, fun i _ h => (by cases h), fun i _ _ => rfl⟩
  · intro L a' w' i o hJ ho hL hdep
    have hi : i < n + 1 := by rw [← hn]; exact (List.getElem?_eq_some_iff.1 ho).1
    rcases hJ with ⟨h1, h2, _⟩ | ⟨h1, vs, rfl, hb, hDv, hf, hu⟩
    · rcases Nat.lt_or_ge i n with hin | hin
      · rw [h2 i hin] at hL; cases hL
      · have : i = n := by omega
        subst this; rw [h1] at hL; cases hL
    · have dep : ∀ j, (o.after.any fun e => Region.binds .any e && e.on == j) = true → L j = true := fun j hj => dep_of hdep j hj
      rcases Nat.lt_or_ge i n with hin | hin
      · have hlow : ∀ j, (o.after.any fun e => Region.binds .any e && e.on == j) = true → j < n := by
          intro j hj
          obtain ⟨e, he, hb⟩ := Array.any_eq_true'.1 hj
          simp only [Bool.and_eq_true, beq_iff_eq] at hb
          unfold depsB at hd
          have h1 := List.all_eq_true.1 hd i (List.mem_range.2 (by omega))
          rw [ho] at h1
          simp only at h1
          have h2 := Array.all_eq_true'.1 h1 e he
          have h3 : e.on < i := by simpa [hb.1] using h2
          omega
        obtain ⟨hw, hs⟩ := hstep vs w' i o hin ho hb hDv (fun j hj => by
          cases hl : L j with
          | true => exact .inr (hf j hj hl)
          | false => exact .inl (hu j hj hl)) (fun j hj => hf j (hlow j hj) (dep j hj))
        rw [if_pos hw]
        refine Oper.wp_mono (fun a'' w'' hh => ?_) hs
        obtain ⟨v, rfl, hv, hb', hD'⟩ := hh
        refine .inr ⟨by simp [h1]; omega, upd vs i v, rfl, below_step hb hb' (Nat.le_refl _), hD', fun j hj hl => ?_, fun j hj hl => ?_⟩
        · by_cases hji : j = i
          · subst hji; simpa [upd] using hv
          · have : L j = true := by simpa [hji] using hl
            have h3 := hF j (vs j) w' w'' (hf j hj this) hb'
            simpa [upd, hji] using h3
        · have hji : j ≠ i := fun e => by simp [e] at hl
          have : L j = false := by simpa [hji] using hl
          simpa [upd, hji] using hu j hj this
      · have hin' : i = n := by omega
        subst hin'
        have hall : ∀ j, j < i → L j = true := fun j hj => dep j (hlast o ho j hj)
        obtain ⟨hw, hs⟩ := hend vs w' o ho hb hDv (fun j hj => hf j hj (hall j hj))
        rw [if_pos hw]
        refine Oper.wp_mono (fun a'' w'' hh => ?_) hs
        exact .inl ⟨by simp, fun j hj => by simp [hall j hj], hh⟩
  · intro L a' w' hJ hall
    rcases hJ with ⟨_, _, h⟩ | ⟨h1, _⟩
    · exact h
    · rw [hall n (by omega)] at h1; cases h1
end Go.Proofs.Ytnfkkkjookfdiaa
