/- append of a slice onto an empty literal: a copy, in a new block; nothing that was there changes. -/
import Derived.Test.YtggjheapjklhgaaDoorRec
import Derived.Test.YtggjheapjklhgaaDoorMem
import Derived.Test.YtggjheapjklhgaaDoorRankW
namespace Go.Proofs.YtggjheapjklhgaaDoor
open Go.RowKit

theorem run_append_new {P : Program} (w : World) (t ty e : TypeId) (z : Value) (size bytes : Nat) (ht : P.underlying t = some (.slice e))
    (hI : (P.info? e).map (fun i => (i.zero, i.size, i.bytes)) = some (some z, size, bytes)) (hzs : z.cells.size = size) (hsz : 0 < size) (g : Nat)
    (a : Option Addr) (m c : Nat) (news : List Value) (hl : news.length = m * size) (hnews : ReadsV w a news) (hm : m ≤ maxLen) (hbytes : m * bytes ≤ 140737488355328) :
    ∃ a' c' w', (Builtin.append_ #[t, t] ty #[.slice (some ⟨g, 0, none⟩) 0 0, .slice a m c]).run P w = .ok (.slice a' m c') w' ∧ (m ≠ 0 → ∃ g', a' = some ⟨g', 0, none⟩ ∧ w.heap.size ≤ g' ∧ w'.ownsRow g' e size (.slice (some ⟨g', 0, none⟩) m c') m news) ∧ m ≤ c' ∧ Below w.heap.size w w' ∧ (m = 0 → c' = 0) := by
  obtain ⟨i, hi, hz0, hz1, hz2⟩ := info_parts hI
  by_cases hm0 : m = 0
  · subst hm0
    refine ⟨some ⟨g, 0, none⟩, 0, w, ?_, fun h => absurd rfl h, Nat.le_refl _, Below.refl _ _, fun _ => rfl⟩
    cases a with
    | none => simp [Builtin.append_, run_underlying ht, sizeOf, typeInfo, hi, Builtin.lenOf, Builtin.firstCells, storeCells]
    | some ad => simp [Builtin.append_, run_underlying ht, sizeOf, typeInfo, hi, Builtin.lenOf, Builtin.firstCells, storeCells, loadCells, loadCellsFrom]
  · have h0 : 0 < news.length := by
      rw [hl]; exact Nat.mul_pos (by omega) hsz
    obtain ⟨b, o, rfl, _, _⟩ := hnews 0 news[0] (List.getElem?_eq_getElem h0)
    have hr := run_append_grow (P := P) w t ty e i z ht hi hz0 ⟨g, 0, none⟩ 0 0 [] (by simp) (fun j u h => by simp at h) ⟨b, o, none⟩ m c news (by rw [hz1]; exact hl) hnews.add (by omega) (by unfold maxLen at hm; omega) (by rw [hz2]; exact growslice_fits (by omega) (by rw [Nat.zero_add]; exact hbytes))
    have hge := grownCap_ge w (0 + m) 0 e
    have hcm := grownCap_le_maxLen w (0 + m) 0 e (by omega)
    simp only [Nat.zero_add, Array.empty_append] at hr hge hcm
    refine ⟨_, _, _, hr, fun _ => ⟨_, rfl, Nat.le_refl _, hl, .inr ⟨w.heap.size, _, _, rfl, Nat.le_refl _, heap_alloc_new w.drew _, hge, hcm, ?_, ?_⟩⟩, hge, ?_⟩
    · simp only [Array.size_append, List.size_toArray, size_zeroCells, hzs, hl, ← Nat.add_mul]
      congr 1
      omega
    · simp only [Array.toList_append, ← hl]
      exact List.take_left
    · exact ⟨⟨rfl, rfl, rfl, by simp, fun k hk => Below.heap_alloc w.drew _ k hk⟩, fun h => absurd h hm0⟩
/-- .. at the operation, ints. -/
theorem wp_append_copy {o : Oper} {ac : Act} {K : Act → World → Prop} {Q : Exit → Act → World → Prop} (s x : Operand)
    (ho : o.op = .call { callee := .builtin .append, args := #[s, x], argTypes := #[37, 37] }) (w : World) (g : Nat) (hs : ac.eval s = .slice (some ⟨g, 0, none⟩) 0 0)
    (a : Option Addr) (m c : Nat) (ys : List Int) (hy : IntsR w a ys) (hm : m = ys.length) (hx : ac.eval x = .slice a m c) (hb : m ≤ 1099511627776)
    (h : ∀ a' c' w', OwnS w' w.heap.size a' m c' ys → Below w.heap.size w w' → K (ac.put o.dst (.slice a' m c')) w') : o.wp Tryd.prog ac w K Q := by
  obtain ⟨a', c', w', hr, h1, h2, h3, _⟩ := run_append_new (P := Tryd.prog) w 37 o.type 3 (.int .i64 0) 1 8 Tryd.underlying37 infoInt rfl (by decide) g a m c (ys.map (Value.int .i64)) (by simp [hm]) hy.cells (by unfold maxLen; omega) (by omega)
  unfold Oper.wp execOp
  simp only [ho, resolve, invoke, builtin, Sem.run_bind, Sem.run_pure, Result.andThen_ok, List.map_toArray, List.map_cons, List.map_nil, hs, hx, hr]
  exact h a' c' w' ⟨hm, h2, h1⟩ h3
/-- append of one record, as one step of a region that draws. -/
theorem step_append_rec {α : Type} {f : α → List Value} {k : Nat} {t T : TypeId} {z : Value} {bytes : Nat} (R : RecT f k t T z bytes) {ops : Array Oper} {o : Oper} {ac : Act} {K : Act → World → Prop} {Q : Exit → Act → World → Prop} {E : Prop} (hgd : o.guard = none) (s x : Operand)
    (ho : o.op = .call { callee := .builtin .append, args := #[s, x], argTypes := #[t, t] })
    (W : World) (B U : Nat) (a : Option Addr) (n c : Nat) (xs : List α) (hown : OwnF f k T W B U a n c xs) (hs : ac.eval s = .slice a n c) (y : α) (vs : Array Value) (hvs : vs = (f y).toArray) (hx : ac.eval x = .slice (some ⟨W.heap.size, 0, none⟩) 1 1) (hB : B ≤ W.heap.size) (hn : n ≤ 1099511627776)
    (h : ∀ a' c' w', OwnF f k T w' B w'.heap.size a' (n + 1) c' (xs ++ [y]) → Keeps (fun b => (Value.slice a n c).ownBlock = some b) W w' → K (ac.put o.dst (.slice a' (n + 1) c')) w') :
    if Region.wanted o (yielded ops ac.tmps) = true then Oper.wp Tryd.prog o ac (W.alloc (.cells vs T)) K Q else E := by
  have hw : Region.wanted o (yielded ops ac.tmps) = true := by simp [Region.wanted, hgd]
  rw [if_pos hw]
  subst hvs
  obtain ⟨a', c', w', hr, h2, h3⟩ := run_append_rec R o.type W B U a n c xs hown y hB hn
  unfold Oper.wp execOp
  simp only [ho, resolve, invoke, builtin, Sem.run_bind, Sem.run_pure, Result.andThen_ok, List.map_toArray, List.map_cons, List.map_nil, hs, hx, hr]
  exact h a' c' w' h2 h3
end Go.Proofs.YtggjheapjklhgaaDoor

/- append of a whole row of records to a row of the call's own. -/
namespace Go.Proofs.YtggjheapjklhgaaDoor
open Go.RowKit
section
variable {α : Type} {f : α → List Value} {k : Nat} {t T : TypeId} {z : Value} {bytes : Nat}
theorem RecR.readsV (hf : ∀ x, (f x).length = k) (hk : 0 < k) {w : World} {a : Option Addr} {xs : List α} (h : RecR f k w a xs) : ReadsV w a (xs.flatMap f) := by
  intro p v hv
  have hp : p < xs.length * k := by rw [← flat_length hf]; exact (List.getElem?_eq_some_iff.1 hv).1
  have hi : p / k < xs.length := by rw [Nat.div_lt_iff_lt_mul hk]; exact hp
  have hj : p % k < k := Nat.mod_lt _ hk
  have hx : xs[p / k]? = some xs[p / k] := List.getElem?_eq_getElem hi
  have hu : (f xs[p / k])[p % k]? = some ((f xs[p / k])[p % k]'(by rw [hf]; exact hj)) := List.getElem?_eq_getElem _
  have h2 := flat_at hf hx hu
  have e : p / k * k + p % k = p := by rw [Nat.mul_comm]; exact Nat.div_add_mod p k
  rw [e, hv] at h2
  simp only [Option.some.injEq] at h2
  obtain ⟨b, o, ha, hlt, hc⟩ := h _ _ hx
  refine ⟨b, o, ha, hlt, ?_⟩
  have h3 := hc _ _ hu
  rw [Nat.add_assoc, e, ← h2] at h3
  exact h3
theorem run_append_row (R : RecT f k t T z bytes) (ty : TypeId) (W : World) (B U : Nat) (a : Option Addr) (n c : Nat) (xs : List α) (hown : OwnF f k T W B U a n c xs)
    (b : Option Addr) (m d : Nat) (ys : List α) (hy : RecR f k W b ys) (hl : m = ys.length) (hB : B ≤ W.heap.size) (hn : n + m ≤ 1099511627776) :
    ∃ a' c' w', (Builtin.append_ #[t, t] ty #[.slice a n c, .slice b m d]).run Tryd.prog W = .ok (.slice a' (n + m) c') w' ∧
      OwnF f k T w' B w'.heap.size a' (n + m) c' (xs ++ ys) ∧ Below B W w' := by
  have hs := R.small
  have hbig : (n + m) * bytes ≤ 140737488355328 := by
    have := Nat.mul_le_mul_left (n + m) hs
    omega
  obtain ⟨v', w', hr, h2, h3, h4⟩ := run_append_src (P := Tryd.prog) W B t ty T z k bytes R.under R.info R.zero R.pos _ n _ hown.row b m d (ys.flatMap f) (by rw [flat_length R.len, hl]) (hy.readsV R.len R.pos)
    (fun u hu => by obtain ⟨x, _, hx⟩ := List.mem_flatMap.1 hu; exact R.one x u hx) hbig (by unfold maxLen; omega) hB
  rw [← List.flatMap_append] at h2
  rcases h2.2 with ⟨rfl, h0⟩ | ⟨g, cap, cur, rfl, hg0, hg, _⟩
  · refine ⟨none, 0, w', by rw [hr, h0], ⟨Nat.le_refl _, by rw [h0] at h2 ⊢; exact h2, fun b hb => by cases hb⟩, h3⟩
  · refine ⟨_, _, w', hr, ⟨Nat.le_refl _, h2, fun b hb => ?_⟩, h3⟩
    rw [ownBlock_slice] at hb
    simp only [Option.some.injEq] at hb
    subst hb
    exact (Array.getElem?_eq_some_iff.1 hg).1
theorem wpList_append_row (R : RecT f k t T z bytes) {ops : Array Oper} {rest : List Oper} {o : Oper} {ac : Act} {Q : Exit → Act → World → Prop} (hgd : o.guard = none) (s x : Operand)
    (ho : o.op = .call { callee := .builtin .append, args := #[s, x], argTypes := #[t, t] })
    (W : World) (B U : Nat) (a : Option Addr) (n c : Nat) (xs : List α) (hown : OwnF f k T W B U a n c xs) (hs : ac.eval s = .slice a n c)
    (b : Option Addr) (m d : Nat) (ys : List α) (hy : RecR f k W b ys) (hl : m = ys.length) (hx : ac.eval x = .slice b m d) (hB : B ≤ W.heap.size) (hn : n + m ≤ 1099511627776)
    (h : ∀ a' c' w', OwnF f k T w' B w'.heap.size a' (n + m) c' (xs ++ ys) → Below B W w' → wpList Tryd.prog ops Q rest (ac.put o.dst (.slice a' (n + m) c')) w') : wpList Tryd.prog ops Q (o :: rest) ac W := by
  refine wpList_plain hgd fun K hK => ?_
  obtain ⟨a', c', w', hr, h2, h3⟩ := run_append_row R o.type W B U a n c xs hown b m d ys hy hl hB hn
  unfold Oper.wp execOp
  simp only [ho, resolve, invoke, builtin, Sem.run_bind, Sem.run_pure, Result.andThen_ok, List.map_toArray, List.map_cons, List.map_nil, hs, hx, hr]
  exact hK _ _ (h a' c' w' h2 h3)
end
end Go.Proofs.YtggjheapjklhgaaDoor

/- append of a row of records onto an empty literal: a copy, in a block of the call's own. -/
namespace Go.Proofs.YtggjheapjklhgaaDoor
open Go.RowKit
section
variable {α : Type} {f : α → List Value} {k : Nat} {t T : TypeId} {z : Value} {bytes : Nat}
theorem OwnF.of_lit (w : World) {g : Nat} (h : w.heap.size = g) : OwnF f k T (w.alloc (.cells #[] T)) g (w.alloc (.cells #[] T)).heap.size (some ⟨g, 0, none⟩) 0 0 [] := by
  subst h
  have := World.ownsRow_lit (base := w.heap.size) (e := T) (size := k) w #[] 0 (Nat.le_refl _) (by unfold maxLen; omega) (by simp)
  exact ⟨Nat.le_refl _, this, fun b hb => by rw [ownBlock_slice] at hb; simp only [Option.some.injEq] at hb; simp; omega⟩
theorem run_append_newrow2 (R : RecT f k t T z bytes) (ty : TypeId) (W : World) (B U g : Nat) (hE : OwnF f k T W B U (some ⟨g, 0, none⟩) 0 0 [])
    (a : Option Addr) (m d : Nat) (ys : List α) (hy : RecR f k W a ys) (hl : m = ys.length) (hB : B ≤ W.heap.size) (hm : m ≤ 1099511627776) :
    ∃ a' c' w', (Builtin.append_ #[t, t] ty #[.slice (some ⟨g, 0, none⟩) 0 0, .slice a m d]).run Tryd.prog W = .ok (.slice a' m c') w' ∧
      OwnF f k T w' B w'.heap.size a' m c' ys ∧ Below W.heap.size W w' ∧ (m ≠ 0 → ∃ g', a' = some ⟨g', 0, none⟩ ∧ W.heap.size ≤ g') ∧ (m = 0 → c' = 0) := by
  obtain ⟨a1, c1, w1, hr1, h1, h2, h3, h30⟩ := run_append_new (P := Tryd.prog) W t ty T z k bytes R.under R.info R.zero R.pos g a m d (ys.flatMap f) (by rw [flat_length R.len, hl]) (hy.readsV R.len R.pos) (by unfold maxLen; omega) (by
    have := Nat.mul_le_mul_left m R.small
    omega)
  obtain ⟨a2, c2, w2, hr2, h4, _⟩ := run_append_row R ty W B U _ 0 0 [] hE a m d ys hy hl hB (by omega)
  rw [Nat.zero_add] at hr2 h4
  rw [hr1] at hr2
  injection hr2 with e1 e2
  injection e1 with e3 e4 e5
  subst e3; subst e5; subst e2
  exact ⟨a1, c1, w1, hr1, by simpa using h4, h3, fun hm0 => by obtain ⟨g', e, hg, _⟩ := h1 hm0; exact ⟨g', e, hg⟩, h30⟩
theorem run_append_newrow (R : RecT f k t T z bytes) (ty : TypeId) (W : World) (B U g : Nat) (hE : OwnF f k T W B U (some ⟨g, 0, none⟩) 0 0 [])
    (a : Option Addr) (m d : Nat) (ys : List α) (hy : RecR f k W a ys) (hl : m = ys.length) (hB : B ≤ W.heap.size) (hm : m ≤ 1099511627776) :
    ∃ a' c' w', (Builtin.append_ #[t, t] ty #[.slice (some ⟨g, 0, none⟩) 0 0, .slice a m d]).run Tryd.prog W = .ok (.slice a' m c') w' ∧
      OwnF f k T w' B w'.heap.size a' m c' ys ∧ Below W.heap.size W w' := by
  obtain ⟨a', c', w', hr, h2, h3, _⟩ := run_append_newrow2 R ty W B U g hE a m d ys hy hl hB hm
  exact ⟨a', c', w', hr, h2, h3⟩
/-- .. with a word on where the new row lies. -/
theorem wp_append_newrow2 (R : RecT f k t T z bytes) {o : Oper} {ac : Act} {K : Act → World → Prop} {Q : Exit → Act → World → Prop} (s x : Operand)
    (ho : o.op = .call { callee := .builtin .append, args := #[s, x], argTypes := #[t, t] }) (W : World) (B U g : Nat) (hE : OwnF f k T W B U (some ⟨g, 0, none⟩) 0 0 []) (hs : ac.eval s = .slice (some ⟨g, 0, none⟩) 0 0)
    (a : Option Addr) (m d : Nat) (ys : List α) (hy : RecR f k W a ys) (hl : m = ys.length) (hx : ac.eval x = .slice a m d) (hB : B ≤ W.heap.size) (hm : m ≤ 1099511627776)
    (h : ∀ a' c' w', OwnF f k T w' B w'.heap.size a' m c' ys → Below W.heap.size W w' → ((m ≠ 0 → ∃ g', a' = some ⟨g', 0, none⟩ ∧ W.heap.size ≤ g') ∧ (m = 0 → c' = 0)) → K (ac.put o.dst (.slice a' m c')) w') : o.wp Tryd.prog ac W K Q := by
  obtain ⟨a', c', w', hr, h2, h3, h4⟩ := run_append_newrow2 R o.type W B U g hE a m d ys hy hl hB hm
  unfold Oper.wp execOp
  simp only [ho, resolve, invoke, builtin, Sem.run_bind, Sem.run_pure, Result.andThen_ok, List.map_toArray, List.map_cons, List.map_nil, hs, hx, hr]
  exact h a' c' w' h2 h3 h4
/-- .. at the operation. -/
theorem wp_append_newrow (R : RecT f k t T z bytes) {o : Oper} {ac : Act} {K : Act → World → Prop} {Q : Exit → Act → World → Prop} (s x : Operand)
    (ho : o.op = .call { callee := .builtin .append, args := #[s, x], argTypes := #[t, t] }) (W : World) (B U g : Nat) (hE : OwnF f k T W B U (some ⟨g, 0, none⟩) 0 0 []) (hs : ac.eval s = .slice (some ⟨g, 0, none⟩) 0 0)
    (a : Option Addr) (m d : Nat) (ys : List α) (hy : RecR f k W a ys) (hl : m = ys.length) (hx : ac.eval x = .slice a m d) (hB : B ≤ W.heap.size) (hm : m ≤ 1099511627776)
    (h : ∀ a' c' w', OwnF f k T w' B w'.heap.size a' m c' ys → Below W.heap.size W w' → K (ac.put o.dst (.slice a' m c')) w') : o.wp Tryd.prog ac W K Q := by
  obtain ⟨a', c', w', hr, h2, h3⟩ := run_append_newrow R o.type W B U g hE a m d ys hy hl hB hm
  unfold Oper.wp execOp
  simp only [ho, resolve, invoke, builtin, Sem.run_bind, Sem.run_pure, Result.andThen_ok, List.map_toArray, List.map_cons, List.map_nil, hs, hx, hr]
  exact h a' c' w' h2 h3
theorem wpList_append_newrow (R : RecT f k t T z bytes) {ops : Array Oper} {rest : List Oper} {o : Oper} {ac : Act} {Q : Exit → Act → World → Prop} (hgd : o.guard = none) (s x : Operand)
    (ho : o.op = .call { callee := .builtin .append, args := #[s, x], argTypes := #[t, t] }) (W : World) (B U g : Nat) (hE : OwnF f k T W B U (some ⟨g, 0, none⟩) 0 0 []) (hs : ac.eval s = .slice (some ⟨g, 0, none⟩) 0 0)
    (a : Option Addr) (m d : Nat) (ys : List α) (hy : RecR f k W a ys) (hl : m = ys.length) (hx : ac.eval x = .slice a m d) (hB : B ≤ W.heap.size) (hm : m ≤ 1099511627776)
    (h : ∀ a' c' w', OwnF f k T w' B w'.heap.size a' m c' ys → Below W.heap.size W w' → wpList Tryd.prog ops Q rest (ac.put o.dst (.slice a' m c')) w') : wpList Tryd.prog ops Q (o :: rest) ac W := by
  refine wpList_plain hgd fun K hK => ?_
  exact wp_append_newrow R s x ho W B U g hE hs a m d ys hy hl hx hB hm fun a' c' w' h1 h2 => hK _ _ (h a' c' w' h1 h2)
end
end Go.Proofs.YtggjheapjklhgaaDoor
