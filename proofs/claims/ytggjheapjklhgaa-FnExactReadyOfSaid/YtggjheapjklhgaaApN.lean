/- append of a row of records onto an empty literal: a copy, in a block of the call's own. -/
import Derived.Test.YtggjheapjklhgaaApp
import Derived.Test.YtggjheapjklhgaaAppR
import Derived.Test.YtggjheapjklhgaaRankW
namespace Go.Proofs.Ytggjheapjklhgaa
open Go.RowKit
section
variable {α : Type} {f : α → List Value} {k : Nat} {t T : TypeId} {z : Value} {bytes : Nat}
theorem OwnF.of_lit (w : World) {g : Nat} (h : w.heap.size = g) : OwnF f k T (w.alloc (.cells #[] T)) g (w.alloc (.cells #[] T)).heap.size (some ⟨g, 0, none⟩) 0 0 [] := by
  subst h
  have := World.ownsRow_lit (base := w.heap.size) (e := T) (size := k) w #[] 0 (Nat.le_refl _) (by unfold maxLen; omega) (by simp)
  exact ⟨Nat.le_refl _, this, fun b hb => by rw [ownBlock_slice] at hb; simp only [Option.some.injEq] at hb; simp; omega⟩
theorem run_append_newrow2 (R : RecT f k t T z bytes) (ty : TypeId) (W : World) (B U g : Nat) (hE : OwnF f k T W B U (some ⟨g, 0, none⟩) 0 0 [])
    (a : Option Addr) (m d : Nat) (ys : List α) (hy : RecR f k W a ys) (hl : m = ys.length) (hB : B ≤ W.heap.size) (hm : m ≤ 1099511627776) :
    ∃ a' c' w', (Builtin.append_ #[t, t] ty #[.slice (some ⟨g, 0, none⟩) 0 0, .slice a m d]).run Try.prog W = .ok (.slice a' m c') w' ∧
      OwnF f k T w' B w'.heap.size a' m c' ys ∧ Below W.heap.size W w' ∧ (m ≠ 0 → ∃ g', a' = some ⟨g', 0, none⟩ ∧ W.heap.size ≤ g') ∧ (m = 0 → c' = 0) := by
  obtain ⟨a1, c1, w1, hr1, h1, h2, h3, h30⟩ := run_append_new (P := Try.prog) W t ty T z k bytes R.under R.info R.zero R.pos g a m d (ys.flatMap f) (by rw [flat_length R.len, hl]) (hy.readsV R.len R.pos) (by unfold maxLen; omega) (by
    have := Nat.mul_le_mul_left m R.small
    omega)
  obtain ⟨a2, c2, w2, hr2, h4, _⟩ := run_append_row R ty W B U _ 0 0 [] hE a m d ys hy hl hB (by omega)
  rw [Nat.zero_add] at hr2 h4
  rw [hr1] at hr2
  injection hr2 with e1 e2
  injection e1 with e3 e4 e5
  subst e3; subst e5; subst e2
  exact ⟨a1, c1, w1, hr1, by simpa using h4, h3, fun hm0 => by obtain ⟨g', e, hg, _⟩ := h1 hm0; exact ⟨g', e, hg⟩, h30⟩
theorem run_append_newrow (R : RecT f k t T z bytes) (ty : TypeId) (W : World) (B U g : Nat) (hE : OwnF f k T W B U (some ⟨g, 0, none⟩) 0 0 [])
    (a : Option Addr) (m d : Nat) (ys : List α) (hy : RecR f k W a ys) (hl : m = ys.length) (hB : B ≤ W.heap.size) (hm : m ≤ 1099511627776) :
    ∃ a' c' w', (Builtin.append_ #[t, t] ty #[.slice (some ⟨g, 0, none⟩) 0 0, .slice a m d]).run Try.prog W = .ok (.slice a' m c') w' ∧
      OwnF f k T w' B w'.heap.size a' m c' ys ∧ Below W.heap.size W w' := by
  obtain ⟨a', c', w', hr, h2, h3, _⟩ := run_append_newrow2 R ty W B U g hE a m d ys hy hl hB hm
  exact ⟨a', c', w', hr, h2, h3⟩
/-- .. with a word on where the new row lies. -/
theorem wp_append_newrow2 (R : RecT f k t T z bytes) {o : Oper} {ac : Act} {K : Act → World → Prop} {Q : Exit → Act → World → Prop} (s x : Operand)
    (ho : o.op = .call { callee := .builtin .append, args := #[s, x], argTypes := #[t, t] }) (W : World) (B U g : Nat) (hE : OwnF f k T W B U (some ⟨g, 0, none⟩) 0 0 []) (hs : ac.eval s = .slice (some ⟨g, 0, none⟩) 0 0)
    (a : Option Addr) (m d : Nat) (ys : List α) (hy : RecR f k W a ys) (hl : m = ys.length) (hx : ac.eval x = .slice a m d) (hB : B ≤ W.heap.size) (hm : m ≤ 1099511627776)
    (h : ∀ a' c' w', OwnF f k T w' B w'.heap.size a' m c' ys → Below W.heap.size W w' → ((m ≠ 0 → ∃ g', a' = some ⟨g', 0, none⟩ ∧ W.heap.size ≤ g') ∧ (m = 0 → c' = 0)) → K (ac.put o.dst (.slice a' m c')) w') : o.wp Try.prog ac W K Q := by
  obtain ⟨a', c', w', hr, h2, h3, h4⟩ := run_append_newrow2 R o.type W B U g hE a m d ys hy hl hB hm
  unfold Oper.wp execOp
  simp only [ho, resolve, invoke, builtin, Sem.run_bind, Sem.run_pure, Result.andThen_ok, List.map_toArray, List.map_cons, List.map_nil, hs, hx, hr]
  exact h a' c' w' h2 h3 h4
/-- .. at the operation. -/
theorem wp_append_newrow (R : RecT f k t T z bytes) {o : Oper} {ac : Act} {K : Act → World → Prop} {Q : Exit → Act → World → Prop} (s x : Operand)
    (ho : o.op = .call { callee := .builtin .append, args := #[s, x], argTypes := #[t, t] }) (W : World) (B U g : Nat) (hE : OwnF f k T W B U (some ⟨g, 0, none⟩) 0 0 []) (hs : ac.eval s = .slice (some ⟨g, 0, none⟩) 0 0)
    (a : Option Addr) (m d : Nat) (ys : List α) (hy : RecR f k W a ys) (hl : m = ys.length) (hx : ac.eval x = .slice a m d) (hB : B ≤ W.heap.size) (hm : m ≤ 1099511627776)
    (h : ∀ a' c' w', OwnF f k T w' B w'.heap.size a' m c' ys → Below W.heap.size W w' → K (ac.put o.dst (.slice a' m c')) w') : o.wp Try.prog ac W K Q := by
  obtain ⟨a', c', w', hr, h2, h3⟩ := run_append_newrow R o.type W B U g hE a m d ys hy hl hB hm
  unfold Oper.wp execOp
  simp only [ho, resolve, invoke, builtin, Sem.run_bind, Sem.run_pure, Result.andThen_ok, List.map_toArray, List.map_cons, List.map_nil, hs, hx, hr]
  exact h a' c' w' h2 h3
theorem wpList_append_newrow (R : RecT f k t T z bytes) {ops : Array Oper} {rest : List Oper} {o : Oper} {ac : Act} {Q : Exit → Act → World → Prop} (hgd : o.guard = none) (s x : Operand)
    (ho : o.op = .call { callee := .builtin .append, args := #[s, x], argTypes := #[t, t] }) (W : World) (B U g : Nat) (hE : OwnF f k T W B U (some ⟨g, 0, none⟩) 0 0 []) (hs : ac.eval s = .slice (some ⟨g, 0, none⟩) 0 0)
    (a : Option Addr) (m d : Nat) (ys : List α) (hy : RecR f k W a ys) (hl : m = ys.length) (hx : ac.eval x = .slice a m d) (hB : B ≤ W.heap.size) (hm : m ≤ 1099511627776)
    (h : ∀ a' c' w', OwnF f k T w' B w'.heap.size a' m c' ys → Below W.heap.size W w' → wpList Try.prog ops Q rest (ac.put o.dst (.slice a' m c')) w') : wpList Try.prog ops Q (o :: rest) ac W := by
  refine wpList_plain hgd fun K hK => ?_
  exact wp_append_newrow R s x ho W B U g hE hs a m d ys hy hl hx hB hm fun a' c' w' h1 h2 => hK _ _ (h a' c' w' h1 h2)
end
end Go.Proofs.Ytggjheapjklhgaa
