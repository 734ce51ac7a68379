/- append of a slice onto an empty literal: a copy, in a new block; nothing that was there changes. -/
import Derived.Test.YtggjheapjklhgaaRec
namespace Go.Proofs.Ytggjheapjklhgaa
open Go.RowKit

theorem run_append_new {P : Program} (w : World) (t ty e : TypeId) (z : Value) (size bytes : Nat) (ht : P.underlying t = some (.slice e))
    (hI : (P.info? e).map (fun i => (i.zero, i.size, i.bytes)) = some (some z, size, bytes)) (hzs : z.cells.size = size) (hsz : 0 < size) (g : Nat)
    (a : Option Addr) (m c : Nat) (news : List Value) (hl : news.length = m * size) (hnews : ReadsV w a news) (hm : m ≤ maxLen) (hbytes : m * bytes ≤ 140737488355328) :
    ∃ a' c' w', (Builtin.append_ #[t, t] ty #[.slice (some ⟨g, 0, none⟩) 0 0, .slice a m c]).run P w = .ok (.slice a' m c') w' ∧ (m ≠ 0 → ∃ g', a' = some ⟨g', 0, none⟩ ∧ w.heap.size ≤ g' ∧ w'.ownsRow g' e size (.slice (some ⟨g', 0, none⟩) m c') m news) ∧ m ≤ c' ∧ Below w.heap.size w w' ∧ (m = 0 → c' = 0) := by
  obtain ⟨i, hi, hz0, hz1, hz2⟩ := info_parts hI
  by_cases hm0 : m = 0
  · subst hm0
    refine ⟨some ⟨g, 0, none⟩, 0, w, ?_, fun h => absurd rfl h, Nat.le_refl _, Below.refl _ _, fun _ => rfl⟩
    cases a with
    | none => simp [Builtin.append_, run_underlying ht, sizeOf, typeInfo, hi, Builtin.lenOf, Builtin.firstCells, storeCells]
    | some ad => simp [Builtin.append_, run_underlying ht, sizeOf, typeInfo, hi, Builtin.lenOf, Builtin.firstCells, storeCells, loadCells, loadCellsFrom]
  · have h0 : 0 < news.length := by
      rw [hl]; exact Nat.mul_pos (by omega) hsz
    obtain ⟨b, o, rfl, _, _⟩ := hnews 0 news[0] (List.getElem?_eq_getElem h0)
    have hr := run_append_grow (P := P) w t ty e i z ht hi hz0 ⟨g, 0, none⟩ 0 0 [] (by simp) (fun j u h => by simp at h) ⟨b, o, none⟩ m c news (by rw [hz1]; exact hl) hnews.add (by omega) (by unfold maxLen at hm; omega) (by rw [hz2]; exact growslice_fits (by omega) (by rw [Nat.zero_add]; exact hbytes))
    have hge := grownCap_ge w (0 + m) 0 e
    have hcm := grownCap_le_maxLen w (0 + m) 0 e (by omega)
    simp only [Nat.zero_add, Array.empty_append] at hr hge hcm
    refine ⟨_, _, _, hr, fun _ => ⟨_, rfl, Nat.le_refl _, hl, .inr ⟨w.heap.size, _, _, rfl, Nat.le_refl _, heap_alloc_new w.drew _, hge, hcm, ?_, ?_⟩⟩, hge, ?_⟩
    · simp only [Array.size_append, List.size_toArray, size_zeroCells, hzs, hl, ← Nat.add_mul]
      congr 1
      omega
    · simp only [Array.toList_append, ← hl]
      exact List.take_left
    · exact ⟨⟨rfl, rfl, rfl, by simp, fun k hk => Below.heap_alloc w.drew _ k hk⟩, fun h => absurd h hm0⟩
/-- .. at the operation, ints. -/
theorem wp_append_copy {o : Oper} {ac : Act} {K : Act → World → Prop} {Q : Exit → Act → World → Prop} (s x : Operand)
    (ho : o.op = .call { callee := .builtin .append, args := #[s, x], argTypes := #[35, 35] }) (w : World) (g : Nat) (hs : ac.eval s = .slice (some ⟨g, 0, none⟩) 0 0)
    (a : Option Addr) (m c : Nat) (ys : List Int) (hy : IntsR w a ys) (hm : m = ys.length) (hx : ac.eval x = .slice a m c) (hb : m ≤ 1099511627776)
    (h : ∀ a' c' w', OwnS w' w.heap.size a' m c' ys → Below w.heap.size w w' → K (ac.put o.dst (.slice a' m c')) w') : o.wp Try.prog ac w K Q := by
  obtain ⟨a', c', w', hr, h1, h2, h3, _⟩ := run_append_new (P := Try.prog) w 35 o.type 3 (.int .i64 0) 1 8 Try.underlying35 infoInt rfl (by decide) g a m c (ys.map (Value.int .i64)) (by simp [hm]) hy.cells (by unfold maxLen; omega) (by omega)
  unfold Oper.wp execOp
  simp only [ho, resolve, invoke, builtin, Sem.run_bind, Sem.run_pure, Result.andThen_ok, List.map_toArray, List.map_cons, List.map_nil, hs, hx, hr]
  exact h a' c' w' ⟨hm, h2, h1⟩ h3
/-- append of one record, as one step of a region that draws. -/
theorem step_append_rec {α : Type} {f : α → List Value} {k : Nat} {t T : TypeId} {z : Value} {bytes : Nat} (R : RecT f k t T z bytes) {ops : Array Oper} {o : Oper} {ac : Act} {K : Act → World → Prop} {Q : Exit → Act → World → Prop} {E : Prop} (hgd : o.guard = none) (s x : Operand)
    (ho : o.op = .call { callee := .builtin .append, args := #[s, x], argTypes := #[t, t] })
    (W : World) (B U : Nat) (a : Option Addr) (n c : Nat) (xs : List α) (hown : OwnF f k T W B U a n c xs) (hs : ac.eval s = .slice a n c) (y : α) (vs : Array Value) (hvs : vs = (f y).toArray) (hx : ac.eval x = .slice (some ⟨W.heap.size, 0, none⟩) 1 1) (hB : B ≤ W.heap.size) (hn : n ≤ 1099511627776)
    (h : ∀ a' c' w', OwnF f k T w' B w'.heap.size a' (n + 1) c' (xs ++ [y]) → Keeps (fun b => (Value.slice a n c).ownBlock = some b) W w' → K (ac.put o.dst (.slice a' (n + 1) c')) w') :
    if Region.wanted o (yielded ops ac.tmps) = true then Oper.wp Try.prog o ac (W.alloc (.cells vs T)) K Q else E := by
  have hw : Region.wanted o (yielded ops ac.tmps) = true := by simp [Region.wanted, hgd]
  rw [if_pos hw]
  subst hvs
  obtain ⟨a', c', w', hr, h2, h3⟩ := run_append_rec R o.type W B U a n c xs hown y hB hn
  unfold Oper.wp execOp
  simp only [ho, resolve, invoke, builtin, Sem.run_bind, Sem.run_pure, Result.andThen_ok, List.map_toArray, List.map_cons, List.map_nil, hs, hx, hr]
  exact h a' c' w' h2 h3
end Go.Proofs.Ytggjheapjklhgaa
