/- A region that draws its order: operations that make memory at most, one operation (number s) that changes memory and waits for all of them, pure operations (X) that come at any time, and operations behind it (Z) in any order, each of which yields one fixed value. -/
import Derived.Test.YtggjheapjklhgaaInN
namespace Go.Proofs.Ytggjheapjklhgaa
open Go.RowKit
def bigZ (l : List Oper) (s : Nat) (X Z : Nat → Bool) : Bool := (List.range l.length).all fun i => X i || Z i || i == s || (decide (i < s) && reachB l l.length s i)
def lateZ (l : List Oper) (s : Nat) (Z : Nat → Bool) : Bool := (List.range l.length).all fun i => !Z i || reachB l l.length i s
theorem mix3_of {P : Program} {id : Nat} {Q : Exit → Act → World → Prop} {a : Act} {w : World} {l : List Oper} (s : Nat) (X Z : Nat → Bool) (V : Nat → Value) {fr : (Nat → Value) → Act} (F : Nat → Value → World → Prop) (G : (Nat → Value) → World → Prop)
    (hm : P.follows .mixedOrders = true) (hd : depsB l = true) (hs : s < l.length) (hXs : X s = false) (hZs : Z s = false)
    (hbigB : bigZ l s X Z = true) (hlateB : lateZ l s Z = true)
    (hfr : ∀ vs, frOf l 0 vs a = fr vs) (h0 : ∃ vs, a = fr vs) (hF : ∀ i v w w', F i v w → Below w.heap.size w w' → F i v w')
    (hG : ∀ vs w' i, X i = true → G vs w' → G (upd vs i (V i)) w')
    (hstep : ∀ (vs : Nat → Value) (w' : World) (i : Nat) (o : Oper), i < l.length → i ≠ s → X i = false → Z i = false → l[i]? = some o → Below w.heap.size w w' → (∀ j, X j = false → Z j = false → (o.after.any fun e => Region.binds .any e && e.on == j) = true → j ≠ s → F j (vs j) w') → (∀ j, X j = true → (o.after.any fun e => Region.binds .any e && e.on == j) = true → vs j = V j) →
      Region.wanted o (yielded l.toArray (fr vs).tmps) = true ∧ o.wp P (fr vs) w' (fun a' w'' => ∃ v, a' = fr (upd vs i v) ∧ F i v w'' ∧ Below w'.heap.size w' w'') Q)
    (hearly : ∀ (vs : Nat → Value) (w' : World) (i : Nat) (o : Oper), i < l.length → X i = true → l[i]? = some o → Below w.heap.size w w' → (∀ j, X j = true → (o.after.any fun e => Region.binds .any e && e.on == j) = true → vs j = V j) →
      Region.wanted o (yielded l.toArray (fr vs).tmps) = true ∧ o.wp P (fr vs) w' (fun a' w'' => a' = fr (upd vs i (V i)) ∧ w'' = w') Q)
    (hlate : ∀ (vs : Nat → Value) (w' : World) (i : Nat) (o : Oper), i < l.length → X i = true → l[i]? = some o → G vs w' → (∀ j, X j = true → (o.after.any fun e => Region.binds .any e && e.on == j) = true → vs j = V j) →
      Region.wanted o (yielded l.toArray (fr vs).tmps) = true ∧ o.wp P (fr vs) w' (fun a' w'' => a' = fr (upd vs i (V i)) ∧ w'' = w') Q)
    (hbig : ∀ (vs : Nat → Value) (w' : World) (o : Oper), l[s]? = some o → Below w.heap.size w w' → (∀ j, j < l.length → X j = false → Z j = false → j ≠ s → F j (vs j) w') →
      Region.wanted o (yielded l.toArray (fr vs).tmps) = true ∧ o.wp P (fr vs) w' (fun a' w'' => ∃ v, a' = fr (upd vs s v) ∧ G (upd vs s v) w'') Q)
    (hz : ∀ (vs : Nat → Value) (w' : World) (i : Nat) (o : Oper), i < l.length → Z i = true → l[i]? = some o → G vs w' → (∀ j, (X j || Z j) = true → (o.after.any fun e => Region.binds .any e && e.on == j) = true → vs j = V j) →
      Region.wanted o (yielded l.toArray (fr vs).tmps) = true ∧ o.wp P (fr vs) w' (fun a' w'' => a' = fr (upd vs i (V i)) ∧ G (upd vs i (V i)) w'') Q)
    (hend : ∀ (vs : Nat → Value) (w' : World), G vs w' → (∀ j, j < l.length → (X j || Z j) = true → vs j = V j) → Q .normal (fr vs) w') :
    (Code.region id l.toArray true).wp P Q a w := by
  have _ := hfr
  have reachS : ∀ i, i < l.length → X i = false → Z i = false → i ≠ s → i < s ∧ reachB l l.length s i = true := by
    intro i h1 h2 h3 h4
    unfold bigZ at hbigB
    have h5 := List.all_eq_true.1 hbigB i (List.mem_range.2 h1)
    simp [h2, h3, h4] at h5
    exact h5
  have reachZ : ∀ i, i < l.length → Z i = true → reachB l l.length i s = true := by
    intro i h1 h2
    unfold lateZ at hlateB
    have h5 := List.all_eq_true.1 hlateB i (List.mem_range.2 h1)
    simpa [h2] using h5
  refine wp_region_inv (fun L a w' => (∀ j o, L j = true → l[j]? = some o → ∀ e ∈ o.after, Region.binds .any e = true → L e.on = true) ∧ ∃ vs, a = fr vs ∧ (∀ i, i < l.length → (X i || Z i) = true → L i = true → vs i = V i) ∧
      ((L s = true ∧ (∀ i, i < l.length → X i = false → Z i = false → L i = true) ∧ G vs w') ∨ (L s = false ∧ (∀ i, Z i = true → L i = false) ∧ Below w.heap.size w w' ∧ ∀ i, i < l.length → X i = false → Z i = false → L i = true → F i (vs i) w'))) hm hd ?_ ?_ ?_
  · obtain ⟨vs, h0⟩ := h0
    exact ⟨(fun j o h => by cases h), vs, h0, (fun i _ _ h => by cases h), .inr ⟨rfl, fun _ _ => rfl, below_ofDrewN _ _ 1, fun i _ _ _ h => (by cases h)⟩⟩
  · intro L a' w' i o hJ ho hL hdep
    have hi : i < l.length := (List.getElem?_eq_some_iff.1 ho).1
    have dep : ∀ j, (o.after.any fun e => Region.binds .any e && e.on == j) = true → L j = true := fun j hj => dep_of hdep j hj
    have hlow : ∀ j, (o.after.any fun e => Region.binds .any e && e.on == j) = true → j < i := by
      intro j hj
      obtain ⟨e, he, hb⟩ := Array.any_eq_true'.1 hj
      simp only [Bool.and_eq_true, beq_iff_eq] at hb
      unfold depsB at hd
      have h1 := List.all_eq_true.1 hd i (List.mem_range.2 (by omega))
      rw [ho] at h1
      simp only at h1
      have h2 := Array.all_eq_true'.1 h1 e he
      have h3 : e.on < i := by simpa [hb.1] using h2
      omega
    obtain ⟨hcl, vs, rfl, hxv, hph⟩ := hJ
    have closed' : ∀ j o, (j == i || L j) = true → l[j]? = some o → ∀ e ∈ o.after, Region.binds .any e = true → (e.on == i || L e.on) = true := by
      intro j o' hj ho' e he hbnd
      by_cases hji : j = i
      · subst hji
        rw [ho] at ho'
        simp only [Option.some.injEq] at ho'
        subst ho'
        simp [hdep e he hbnd]
      · have : L j = true := by simpa [hji] using hj
        simp [hcl j o' this ho' e he hbnd]
    have rch : ∀ j, reachB l l.length i j = true → L j = true := fun j hj =>
      reach_of hcl l.length i (fun o' ho' e he hbnd => by rw [ho] at ho'; simp only [Option.some.injEq] at ho'; subst ho'; exact hdep e he hbnd) j hj
    have xv' : ∀ v, v = V i → ∀ j, j < l.length → (X j || Z j) = true → (j == i || L j) = true → upd vs i v j = V j := by
      intro v hv j hj hxj hl
      by_cases hji : j = i
      · subst hji; simp [upd, hv]
      · have : L j = true := by simpa [hji] using hl
        simpa [upd, hji] using hxv j hj hxj this
    have xv2 : (X i || Z i) = false → ∀ v j, j < l.length → (X j || Z j) = true → (j == i || L j) = true → upd vs i v j = V j := by
      intro hx v j hj hxj hl
      have hji : j ≠ i := fun e => by rw [e, hx] at hxj; cases hxj
      have : L j = true := by simpa [hji] using hl
      simpa [upd, hji] using hxv j hj hxj this
    have dX : ∀ j, X j = true → (o.after.any fun e => Region.binds .any e && e.on == j) = true → vs j = V j := fun j hxj hj => hxv j (by have := hlow j hj; omega) (by simp [hxj]) (dep j hj)
    cases hx : X i with
    | true =>
      have his : i ≠ s := fun e => by rw [e, hXs] at hx; cases hx
      have hsi : ¬ s = i := fun e => his e.symm
      rcases hph with ⟨p1, p2, p3⟩ | ⟨p1, p0, p2, p3⟩
      · obtain ⟨hw, hst⟩ := hlate vs w' i o hi hx ho p3 dX
        rw [if_pos hw]
        refine Oper.wp_mono (fun a'' w'' hh => ?_) hst
        obtain ⟨rfl, rfl⟩ := hh
        exact ⟨closed', upd vs i (V i), rfl, xv' _ rfl, .inl ⟨by simp [p1], fun j hj hxj hzj => by simp [p2 j hj hxj hzj], hG vs _ i hx p3⟩⟩
      · obtain ⟨hw, hst⟩ := hearly vs w' i o hi hx ho p2 dX
        rw [if_pos hw]
        refine Oper.wp_mono (fun a'' w'' hh => ?_) hst
        obtain ⟨rfl, rfl⟩ := hh
        cases hzi : Z i with
        | true => have := rch s (reachZ i hi hzi); rw [p1] at this; cases this
        | false =>
        refine ⟨closed', upd vs i (V i), rfl, xv' _ rfl, .inr ⟨by simp [hsi, p1], fun j hzj => ?_, p2, fun j hj hxj hzj hl => ?_⟩⟩
        · have hji : j ≠ i := fun e => by rw [e, hzi] at hzj; cases hzj
          simp [hji, p0 j hzj]
        · have hji : j ≠ i := fun e => by rw [e, hx] at hxj; cases hxj
          have : L j = true := by simpa [hji] using hl
          simpa [upd, hji] using p3 j hj hxj hzj this
    | false =>
      cases hzi : Z i with
      | true =>
        have hLs := rch s (reachZ i hi hzi)
        rcases hph with ⟨p1, p2, p3⟩ | ⟨p1, _⟩
        · obtain ⟨hw, hst⟩ := hz vs w' i o hi hzi ho p3 (fun j hxj hj => hxv j (by have := hlow j hj; omega) hxj (dep j hj))
          rw [if_pos hw]
          refine Oper.wp_mono (fun a'' w'' hh => ?_) hst
          obtain ⟨rfl, hg⟩ := hh
          exact ⟨closed', upd vs i (V i), rfl, xv' _ rfl, .inl ⟨by simp [p1], fun j hj hxj hzj => by simp [p2 j hj hxj hzj], hg⟩⟩
        · rw [hLs] at p1; cases p1
      | false =>
        rcases hph with ⟨p1, p2, p3⟩ | ⟨p1, p0, p2, p3⟩
        · rw [p2 i hi hx hzi] at hL; cases hL
        · have hno : ∀ j, Z j = true → (j == i || L j) = false := fun j hzj => by
            have hji : j ≠ i := fun e => by rw [e, hzi] at hzj; cases hzj
            simp [hji, p0 j hzj]
          by_cases his : i = s
          · subst his
            have hall : ∀ j, j < l.length → X j = false → Z j = false → j ≠ i → L j = true := fun j hj hxj hzj hji => rch j (reachS j hj hxj hzj hji).2
            obtain ⟨hw, hst⟩ := hbig vs w' o ho p2 (fun j hj hxj hzj hji => p3 j hj hxj hzj (hall j hj hxj hzj hji))
            rw [if_pos hw]
            refine Oper.wp_mono (fun a'' w'' hh => ?_) hst
            obtain ⟨v, rfl, hg⟩ := hh
            refine ⟨closed', upd vs i v, rfl, xv2 (by rw [hx, hzi]; rfl) v, .inl ⟨by simp, fun j hj hxj hzj => ?_, hg⟩⟩
            by_cases hji : j = i
            · simp [hji]
            · simp [hall j hj hxj hzj hji]
          · have hsi : ¬ s = i := fun e => his e.symm
            obtain ⟨hw, hst⟩ := hstep vs w' i o hi his hx hzi ho p2 (fun j hxj hzj hj _ => p3 j (by have := hlow j hj; omega) hxj hzj (dep j hj)) dX
            rw [if_pos hw]
            refine Oper.wp_mono (fun a'' w'' hh => ?_) hst
            obtain ⟨v, rfl, hv, hb'⟩ := hh
            refine ⟨closed', upd vs i v, rfl, xv2 (by rw [hx, hzi]; rfl) v, .inr ⟨by simp [hsi, p1], hno, below_step p2 hb' (Nat.le_refl _), fun j hj hxj hzj hl => ?_⟩⟩
            by_cases hji : j = i
            · subst hji; simpa [upd] using hv
            · have : L j = true := by simpa [hji] using hl
              have h3 := hF j (vs j) w' w'' (p3 j hj hxj hzj this) hb'
              simpa [upd, hji] using h3
  · intro L a' w' hJ hall
    obtain ⟨hcl, vs, rfl, hxv, hph⟩ := hJ
    have hg : G vs w' := by
      rcases hph with ⟨_, _, p3⟩ | ⟨p1, _⟩
      · exact p3
      · rw [hall s hs] at p1; cases p1
    exact hend vs w' hg (fun j hj hxj => hxv j hj hxj (hall j hj))
end Go.Proofs.Ytggjheapjklhgaa
