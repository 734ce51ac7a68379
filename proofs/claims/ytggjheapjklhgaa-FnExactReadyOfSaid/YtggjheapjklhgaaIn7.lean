/- A region that draws its order: the first n operations make memory at most, the others come one behind the other, each behind all earlier ones (by way of others too). -/
import Derived.Test.YtggjheapjklhgaaIn5
import Derived.Test.YtggjheapjklhgaaRec
namespace Go.Proofs.Ytggjheapjklhgaa
open Go.RowKit

/-- Does operation m come behind operation i, perhaps by way of others? -/
def reachB (l : List Oper) : Nat → Nat → Nat → Bool
  | 0, _, _ => false
  | f + 1, m, i => match l[m]? with
    | some o => o.after.any fun e => Region.binds .any e && (e.on == i || reachB l f e.on i)
    | none => false
def tailB (l : List Oper) (n : Nat) : Bool := (List.range l.length).all fun m => (List.range m).all fun i => decide (m < n) || reachB l l.length m i
theorem reach_of {l : List Oper} {L : Nat → Bool} (hcl : ∀ j o, L j = true → l[j]? = some o → ∀ e ∈ o.after, Region.binds .any e = true → L e.on = true) :
    ∀ (f m : Nat), (∀ o, l[m]? = some o → ∀ e ∈ o.after, Region.binds .any e = true → L e.on = true) → ∀ i, reachB l f m i = true → L i = true
  | 0, _, _, _, h => by cases h
  | f + 1, m, hm, i, h => by
    unfold reachB at h
    split at h
    · rename_i o ho
      obtain ⟨e, he, hb⟩ := Array.any_eq_true'.1 h
      simp only [Bool.and_eq_true, Bool.or_eq_true, beq_iff_eq] at hb
      obtain ⟨hb1, hb2⟩ := hb
      have hl := hm o ho e he hb1
      rcases hb2 with h2 | h2
      · rw [← h2]; exact hl
      · exact reach_of hcl f e.on (fun o' ho' => hcl e.on o' hl ho') i h2
    · cases h
theorem growR_of {P : Program} {id : Nat} {Q : Exit → Act → World → Prop} {a : Act} {w : World} {l : List Oper} (n : Nat) {fr : (Nat → Value) → Act} (F : Nat → Value → World → Prop) (hm : P.follows .mixedOrders = true) (hd : depsB l = true) (hn : n ≤ l.length)
    (hlast : tailB l n = true)
    (hfr : ∀ vs, frOf (l.take n) 0 vs a = fr vs) (h0 : ∃ vs, a = fr vs) (hF : ∀ i v w w', F i v w → Below w.heap.size w w' → F i v w')
    (hstep : ∀ (vs : Nat → Value) (w' : World) (i : Nat) (o : Oper), i < n → l[i]? = some o → Below w.heap.size w w' → (∀ j, (o.after.any fun e => Region.binds .any e && e.on == j) = true → F j (vs j) w') →
      Region.wanted o (yielded l.toArray (fr vs).tmps) = true ∧ o.wp P (fr vs) w' (fun a' w'' => ∃ v, a' = fr (upd vs i v) ∧ F i v w'' ∧ Below w'.heap.size w' w'') Q)
    (hend : ∀ (vs : Nat → Value) (w' : World), Below w.heap.size w w' → (∀ j, j < n → F j (vs j) w') → wpTail P l.toArray Q (l.drop n) (fr vs) w') :
    (Code.region id l.toArray true).wp P Q a w := by
  have _ := hfr
  have reach : ∀ m i, n ≤ m → m < l.length → i < m → reachB l l.length m i = true := by
    intro m i h1 h2 h3
    unfold tailB at hlast
    have h4 := List.all_eq_true.1 hlast m (List.mem_range.2 h2)
    have h5 := List.all_eq_true.1 h4 i (List.mem_range.2 h3)
    have h6 : decide (m < n) = false := by simp; omega
    rw [h6, Bool.false_or] at h5
    exact h5
  refine wp_region_inv (fun L a w' => (∃ m, n ≤ m ∧ m ≤ l.length ∧ (∀ i, L i = decide (i < m)) ∧ wpTail P l.toArray Q (l.drop m) a w') ∨
    ((∀ i, n ≤ i → L i = false) ∧ (∀ j o, L j = true → l[j]? = some o → ∀ e ∈ o.after, Region.binds .any e = true → L e.on = true) ∧ ∃ vs, a = fr vs ∧ Below w.heap.size w w' ∧ (∀ i, i < n → L i = true → F i (vs i) w'))) hm hd ?_ ?_ ?_
  · obtain ⟨vs, h0⟩ := h0
    exact .inr ⟨fun _ _ => rfl, (fun j o h => by cases h), vs, h0, below_ofDrewN _ _ 1, fun i _ h => (by cases h)⟩
  · intro L a' w' i o hJ ho hL hdep
    have hi : i < l.length := (List.getElem?_eq_some_iff.1 ho).1
    have dep : ∀ j, (o.after.any fun e => Region.binds .any e && e.on == j) = true → L j = true := fun j hj => dep_of hdep j hj
    have hdrop : l.drop i = o :: l.drop (i + 1) := by
      rw [List.drop_eq_getElem_cons hi]
      have := List.getElem?_eq_getElem hi
      rw [ho] at this
      simp only [Option.some.injEq] at this
      rw [this]
    -- one step of the tail
    have tail : (∀ j, L j = decide (j < i)) → wpTail P l.toArray Q (l.drop i) a' w' → n ≤ i →
        if Region.wanted o (yielded l.toArray a'.tmps) = true then o.wp P a' w' (fun a w' => (∃ m, n ≤ m ∧ m ≤ l.length ∧ (∀ i_1, (i_1 == i || L i_1) = decide (i_1 < m)) ∧ wpTail P l.toArray Q (l.drop m) a w') ∨
          ((∀ j, n ≤ j → (j == i || L j) = false) ∧ (∀ j o, (j == i || L j) = true → l[j]? = some o → ∀ e ∈ o.after, Region.binds .any e = true → (e.on == i || L e.on) = true) ∧ ∃ vs, a = fr vs ∧ Below w.heap.size w w' ∧ (∀ j, j < n → (j == i || L j) = true → F j (vs j) w'))) Q
        else (∃ m, n ≤ m ∧ m ≤ l.length ∧ (∀ i_1, (i_1 == i || L i_1) = decide (i_1 < m)) ∧ wpTail P l.toArray Q (l.drop m) (a'.put o.dst undef) w') ∨
          ((∀ j, n ≤ j → (j == i || L j) = false) ∧ (∀ j o, (j == i || L j) = true → l[j]? = some o → ∀ e ∈ o.after, Region.binds .any e = true → (e.on == i || L e.on) = true) ∧ ∃ vs, a'.put o.dst undef = fr vs ∧ Below w.heap.size w w' ∧ (∀ j, j < n → (j == i || L j) = true → F j (vs j) w')) := by
      intro h3 h4 hin
      rw [hdrop] at h4
      have hL' : ∀ j, (j == i || L j) = decide (j < i + 1) := by
        intro j
        rw [h3 j]
        rcases Nat.lt_trichotomy j i with h | h | h
        · simp [h]; omega
        · subst h; simp
        · have e1 : ¬ j = i := by omega
          have e2 : ¬ j < i := by omega
          have e3 : ¬ j < i + 1 := by omega
          simp [e1, e2, e3]
      unfold wpTail at h4
      split
      · rename_i hw
        rw [if_pos hw] at h4
        exact Oper.wp_mono (fun a'' w'' hh => .inl ⟨i + 1, by omega, by omega, hL', hh⟩) h4
      · rename_i hw
        rw [if_neg hw] at h4
        exact .inl ⟨i + 1, by omega, by omega, hL', h4⟩
    rcases hJ with ⟨m, h1, h2, h3, h4⟩ | ⟨h1, hcl, vs, rfl, hb, hf⟩
    · have him : i = m := by
        have e1 : ¬ i < m := by have := h3 i; rw [hL] at this; simpa using this.symm
        rcases Nat.lt_or_ge m i with h | h
        · have hcl : ∀ j o, L j = true → l[j]? = some o → ∀ e ∈ o.after, Region.binds .any e = true → L e.on = true := by
            intro j o' hj ho' e he hbnd
            rw [h3 j] at hj
            have hjm : j < m := by simpa using hj
            unfold depsB at hd
            have q1 := List.all_eq_true.1 hd j (List.mem_range.2 (by omega))
            rw [ho'] at q1
            simp only at q1
            have q2 := Array.all_eq_true'.1 q1 e he
            have q3 : e.on < j := by simpa [hbnd] using q2
            rw [h3 e.on]; simp; omega
          have := reach_of hcl l.length i (fun o' ho' e he hbnd => by rw [ho] at ho'; simp only [Option.some.injEq] at ho'; subst ho'; exact hdep e he hbnd) m (reach i m (by omega) hi h)
          rw [h3 m] at this
          simp at this
        · omega
      subst him
      exact tail h3 h4 h1
    · rcases Nat.lt_or_ge i n with hin | hin
      · have hlow : ∀ j, (o.after.any fun e => Region.binds .any e && e.on == j) = true → j < n := by
          intro j hj
          obtain ⟨e, he, hb⟩ := Array.any_eq_true'.1 hj
          simp only [Bool.and_eq_true, beq_iff_eq] at hb
          unfold depsB at hd
          have h1 := List.all_eq_true.1 hd i (List.mem_range.2 (by omega))
          rw [ho] at h1
          simp only at h1
          have h2 := Array.all_eq_true'.1 h1 e he
          have h3 : e.on < i := by simpa [hb.1] using h2
          omega
        obtain ⟨hw, hs⟩ := hstep vs w' i o hin ho hb (fun j hj => hf j (hlow j hj) (dep j hj))
        rw [if_pos hw]
        refine Oper.wp_mono (fun a'' w'' hh => ?_) hs
        obtain ⟨v, rfl, hv, hb'⟩ := hh
        refine .inr ⟨fun j hj => by
          have e1 : ¬ j = i := by omega
          simp [e1, h1 j hj], fun j o' hj ho' e he hbnd => ?_, upd vs i v, rfl, below_step hb hb' (Nat.le_refl _), fun j hj hl => ?_⟩
        · by_cases hji : j = i
          · subst hji
            rw [ho] at ho'
            simp only [Option.some.injEq] at ho'
            subst ho'
            simp [hdep e he hbnd]
          · have : L j = true := by simpa [hji] using hj
            simp [hcl j o' this ho' e he hbnd]
        · by_cases hji : j = i
          · subst hji; simpa [upd] using hv
          · have : L j = true := by simpa [hji] using hl
            have h3 := hF j (vs j) w' w'' (hf j hj this) hb'
            simpa [upd, hji] using h3
      · have hall : ∀ j, j < i → L j = true := fun j hj => reach_of hcl l.length i (fun o' ho' e he hbnd => by rw [ho] at ho'; simp only [Option.some.injEq] at ho'; subst ho'; exact hdep e he hbnd) j (reach i j hin hi hj)
        have hni : i = n := by
          rcases Nat.lt_or_ge n i with h | h
          · have := hall n h; rw [h1 n (Nat.le_refl _)] at this; cases this
          · omega
        subst hni
        refine tail (fun j => ?_) (hend vs w' hb (fun j hj => hf j hj (hall j hj))) hin
        rcases Nat.lt_or_ge j i with h | h
        · rw [hall j h]; simp [h]
        · rw [h1 j h]
          have : ¬ j < i := by omega
          simp [this]
  · intro L a' w' hJ hall
    have fin : ∀ a w', wpTail P l.toArray Q (l.drop l.length) a w' → Q .normal a w' := by
      intro a w' h
      rw [List.drop_length] at h
      exact h
    rcases hJ with ⟨m, h1, h2, h3, h4⟩ | ⟨h1, hcl, vs, rfl, hb, hf⟩
    · have hm : m = l.length := by
        rcases Nat.lt_or_ge m l.length with h | h
        · have := hall m h
          rw [h3 m] at this
          simp at this
        · omega
      subst hm
      exact fin _ _ h4
    · rcases Nat.lt_or_ge n l.length with h | h
      · have := hall n h; rw [h1 n (Nat.le_refl _)] at this; cases this
      · have hnl : n = l.length := by omega
        have := hend vs w' hb (fun j hj => hf j hj (hall j (by omega)))
        rw [hnl] at this
        exact fin _ _ this
section
variable {α : Type} {f : α → List Value} {k : Nat} {t T : TypeId} {z : Value} {bytes : Nat}
/-- append of one record that lies in a block of its own. -/
theorem run_append_rec_at (R : RecT f k t T z bytes) (ty : TypeId) (W : World) (B U h : Nat) (a : Option Addr) (n c : Nat) (xs : List α) (hown : OwnF f k T W B U a n c xs) (y : α) (hy : ∀ j u, (f y)[j]? = some u → W.cell? ((⟨h, 0, none⟩ : Addr).add j) = some u) (hB : B ≤ W.heap.size) (hn : n ≤ 1099511627776) :
    ∃ a' c' w', (Builtin.append_ #[t, t] ty #[.slice a n c, .slice (some ⟨h, 0, none⟩) 1 1]).run Try.prog W = .ok (.slice a' (n + 1) c') w' ∧
      OwnF f k T w' B w'.heap.size a' (n + 1) c' (xs ++ [y]) ∧ Keeps (fun b => (Value.slice a n c).ownBlock = some b) W w' := by
  obtain ⟨i, hi, hz0, hz1, hz2⟩ := info_parts R.info
  have hs := R.small
  have hbig : (n + 1) * bytes ≤ 140737488355328 := by
    have := Nat.mul_le_mul_left (n + 1) hs
    omega
  obtain ⟨v', w', hr, h2, h3, h4⟩ := run_append_own (P := Try.prog) W B t ty T i z k bytes R.under hi hz0 hz1 hz2 R.zero R.pos _ n _ hown.row ⟨h, 0, none⟩ 1 1 (f y) (by rw [R.len, Nat.one_mul]) hy (R.one y) (by unfold maxLen; omega) hbig hB
  rw [← flat_snoc] at h2
  have hlen : (xs ++ [y]).length = n + 1 := by
    have := h2.1
    rw [flat_length R.len] at this
    exact Nat.eq_of_mul_eq_mul_right R.pos this
  obtain ⟨a', c', rfl, hhi⟩ : ∃ a' c', v' = .slice a' (n + 1) c' ∧ ∀ b, (Value.slice a' (n + 1) c').ownBlock = some b → b < w'.heap.size := by
    rcases h2.2 with ⟨_, h0⟩ | ⟨g, cap, cur, rfl, _, hg, _⟩
    · omega
    · refine ⟨_, _, rfl, fun b hb => ?_⟩
      rw [ownBlock_slice] at hb
      simp only [Option.some.injEq] at hb
      subst hb
      exact (Array.getElem?_eq_some_iff.1 hg).1
  exact ⟨a', c', w', hr, ⟨Nat.le_refl _, h2, hhi⟩, ⟨h3.os, h3.tape, h3.output, h3.size, fun b hb hne => h3.block b hb fun e => hne e.symm⟩⟩
/-- .. at a tail's operation. -/
theorem wpTail_append_rec (R : RecT f k t T z bytes) {ops : Array Oper} {rest : List Oper} {o : Oper} {ac : Act} {Q : Exit → Act → World → Prop} (hgd : o.guard = none) (s x : Operand)
    (ho : o.op = .call { callee := .builtin .append, args := #[s, x], argTypes := #[t, t] })
    (W : World) (B U h : Nat) (a : Option Addr) (n c : Nat) (xs : List α) (hown : OwnF f k T W B U a n c xs) (hs : ac.eval s = .slice a n c) (y : α) (hy : ∀ j u, (f y)[j]? = some u → W.cell? ((⟨h, 0, none⟩ : Addr).add j) = some u) (hx : ac.eval x = .slice (some ⟨h, 0, none⟩) 1 1) (hB : B ≤ W.heap.size) (hn : n ≤ 1099511627776)
    (hk : ∀ a' c' w', OwnF f k T w' B w'.heap.size a' (n + 1) c' (xs ++ [y]) → Keeps (fun b => (Value.slice a n c).ownBlock = some b) W w' → wpTail Try.prog ops Q rest (ac.put o.dst (.slice a' (n + 1) c')) w') :
    wpTail Try.prog ops Q (o :: rest) ac W := by
  obtain ⟨a', c', w', hr, h2, h3⟩ := run_append_rec_at R o.type W B U h a n c xs hown y hy hB hn
  refine wpTail_plain hgd fun K hK => ?_
  unfold Oper.wp execOp
  simp only [ho, resolve, invoke, builtin, Sem.run_bind, Sem.run_pure, Result.andThen_ok, List.map_toArray, List.map_cons, List.map_nil, hs, hx, hr]
  exact hK _ _ (hk a' c' w' h2 h3)
end
end Go.Proofs.Ytggjheapjklhgaa
