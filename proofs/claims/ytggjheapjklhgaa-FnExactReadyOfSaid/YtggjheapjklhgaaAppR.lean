/- append of a whole row of records to a row of the call's own. -/
import Derived.Test.YtggjheapjklhgaaRec
import Derived.Test.YtggjheapjklhgaaMemA
namespace Go.Proofs.Ytggjheapjklhgaa
open Go.RowKit
section
variable {α : Type} {f : α → List Value} {k : Nat} {t T : TypeId} {z : Value} {bytes : Nat}
theorem RecR.readsV (hf : ∀ x, (f x).length = k) (hk : 0 < k) {w : World} {a : Option Addr} {xs : List α} (h : RecR f k w a xs) : ReadsV w a (xs.flatMap f) := by
  intro p v hv
  have hp : p < xs.length * k := by rw [← flat_length hf]; exact (List.getElem?_eq_some_iff.1 hv).1
  have hi : p / k < xs.length := by rw [Nat.div_lt_iff_lt_mul hk]; exact hp
  have hj : p % k < k := Nat.mod_lt _ hk
  have hx : xs[p / k]? = some xs[p / k] := List.getElem?_eq_getElem hi
  have hu : (f xs[p / k])[p % k]? = some ((f xs[p / k])[p % k]'(by rw [hf]; exact hj)) := List.getElem?_eq_getElem _
  have h2 := flat_at hf hx hu
  have e : p / k * k + p % k = p := by rw [Nat.mul_comm]; exact Nat.div_add_mod p k
  rw [e, hv] at h2
  simp only [Option.some.injEq] at h2
  obtain ⟨b, o, ha, hlt, hc⟩ := h _ _ hx
  refine ⟨b, o, ha, hlt, ?_⟩
  have h3 := hc _ _ hu
  rw [Nat.add_assoc, e, ← h2] at h3
  exact h3
theorem run_append_row (R : RecT f k t T z bytes) (ty : TypeId) (W : World) (B U : Nat) (a : Option Addr) (n c : Nat) (xs : List α) (hown : OwnF f k T W B U a n c xs)
    (b : Option Addr) (m d : Nat) (ys : List α) (hy : RecR f k W b ys) (hl : m = ys.length) (hB : B ≤ W.heap.size) (hn : n + m ≤ 1099511627776) :
    ∃ a' c' w', (Builtin.append_ #[t, t] ty #[.slice a n c, .slice b m d]).run Try.prog W = .ok (.slice a' (n + m) c') w' ∧
      OwnF f k T w' B w'.heap.size a' (n + m) c' (xs ++ ys) ∧ Below B W w' := by
  have hs := R.small
  have hbig : (n + m) * bytes ≤ 140737488355328 := by
    have := Nat.mul_le_mul_left (n + m) hs
    omega
  obtain ⟨v', w', hr, h2, h3, h4⟩ := run_append_src (P := Try.prog) W B t ty T z k bytes R.under R.info R.zero R.pos _ n _ hown.row b m d (ys.flatMap f) (by rw [flat_length R.len, hl]) (hy.readsV R.len R.pos)
    (fun u hu => by obtain ⟨x, _, hx⟩ := List.mem_flatMap.1 hu; exact R.one x u hx) hbig (by unfold maxLen; omega) hB
  rw [← List.flatMap_append] at h2
  rcases h2.2 with ⟨rfl, h0⟩ | ⟨g, cap, cur, rfl, hg0, hg, _⟩
  · refine ⟨none, 0, w', by rw [hr, h0], ⟨Nat.le_refl _, by rw [h0] at h2 ⊢; exact h2, fun b hb => by cases hb⟩, h3⟩
  · refine ⟨_, _, w', hr, ⟨Nat.le_refl _, h2, fun b hb => ?_⟩, h3⟩
    rw [ownBlock_slice] at hb
    simp only [Option.some.injEq] at hb
    subst hb
    exact (Array.getElem?_eq_some_iff.1 hg).1
theorem wpList_append_row (R : RecT f k t T z bytes) {ops : Array Oper} {rest : List Oper} {o : Oper} {ac : Act} {Q : Exit → Act → World → Prop} (hgd : o.guard = none) (s x : Operand)
    (ho : o.op = .call { callee := .builtin .append, args := #[s, x], argTypes := #[t, t] })
    (W : World) (B U : Nat) (a : Option Addr) (n c : Nat) (xs : List α) (hown : OwnF f k T W B U a n c xs) (hs : ac.eval s = .slice a n c)
    (b : Option Addr) (m d : Nat) (ys : List α) (hy : RecR f k W b ys) (hl : m = ys.length) (hx : ac.eval x = .slice b m d) (hB : B ≤ W.heap.size) (hn : n + m ≤ 1099511627776)
    (h : ∀ a' c' w', OwnF f k T w' B w'.heap.size a' (n + m) c' (xs ++ ys) → Below B W w' → wpList Try.prog ops Q rest (ac.put o.dst (.slice a' (n + m) c')) w') : wpList Try.prog ops Q (o :: rest) ac W := by
  refine wpList_plain hgd fun K hK => ?_
  obtain ⟨a', c', w', hr, h2, h3⟩ := run_append_row R o.type W B U a n c xs hown b m d ys hy hl hB hn
  unfold Oper.wp execOp
  simp only [ho, resolve, invoke, builtin, Sem.run_bind, Sem.run_pure, Result.andThen_ok, List.map_toArray, List.map_cons, List.map_nil, hs, hx, hr]
  exact hK _ _ (h a' c' w' h2 h3)
end
end Go.Proofs.Ytggjheapjklhgaa
