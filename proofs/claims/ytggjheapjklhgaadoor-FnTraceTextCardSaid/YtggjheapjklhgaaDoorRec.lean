/- Rows of records: a slice whose elements have several cells each, that reads as a list; one that a call owns. -/
import Derived.Test.YtggjheapjklhgaaDoorMem
import Derived.Test.YtggjheapjklhgaaDoorLists
namespace Go.Proofs.YtggjheapjklhgaaDoor
open Go.RowKit

section
variable {α : Type} {f : α → List Value} {k : Nat}
theorem flat_length (hf : ∀ x, (f x).length = k) (xs : List α) : (xs.flatMap f).length = xs.length * k := by
  induction xs with
  | nil => simp
  | cons x xs ih => rw [List.flatMap_cons, List.length_append, hf, ih, List.length_cons, Nat.add_mul, Nat.one_mul, Nat.add_comm]
theorem flat_at (hf : ∀ x, (f x).length = k) {xs : List α} {i j : Nat} {x : α} {v : Value} (hx : xs[i]? = some x) (hv : (f x)[j]? = some v) : (xs.flatMap f)[i * k + j]? = some v := by
  induction xs generalizing i with
  | nil => simp at hx
  | cons y xs ih =>
    rw [List.flatMap_cons]
    cases i with
    | zero =>
      simp only [List.getElem?_cons_zero, Option.some.injEq] at hx
      subst hx
      rw [Nat.zero_mul, Nat.zero_add, List.getElem?_append_left (List.getElem?_eq_some_iff.1 hv).1]
      exact hv
    | succ i =>
      rw [List.getElem?_cons_succ] at hx
      rw [List.getElem?_append_right (by rw [hf, Nat.add_mul, Nat.one_mul]; omega), hf, Nat.add_mul, Nat.one_mul, show i * k + k + j - k = i * k + j by omega]
      exact ih hx
theorem flat_set (hf : ∀ x, (f x).length = k) {xs : List α} {i j : Nat} {x y : α} {v : Value} (hx : xs[i]? = some x) (hj : j < k) (hy : (f x).set j v = f y) : (xs.flatMap f).set (i * k + j) v = (xs.set i y).flatMap f := by
  induction xs generalizing i with
  | nil => simp at hx
  | cons z xs ih =>
    cases i with
    | zero =>
      simp only [List.getElem?_cons_zero, Option.some.injEq] at hx
      subst hx
      rw [List.set_cons_zero, List.flatMap_cons, List.flatMap_cons, Nat.zero_mul, Nat.zero_add, List.set_append_left _ _ (by rw [hf]; exact hj), hy]
    | succ i =>
      rw [List.getElem?_cons_succ] at hx
      rw [List.set_cons_succ, List.flatMap_cons, List.flatMap_cons, List.set_append_right _ _ (by rw [hf, Nat.add_mul, Nat.one_mul]; omega), hf, Nat.add_mul, Nat.one_mul, show i * k + k + j - k = i * k + j by omega, ih hx]
theorem flat_snoc (xs : List α) (x : α) : (xs ++ [x]).flatMap f = xs.flatMap f ++ f x := by simp
end

/-- The cells of a made row of records. -/
theorem flat_made {α : Type} {f : α → List Value} {k : Nat} (hf : ∀ x, (f x).length = k) (hk : 0 < k) (zs : Array Value) (x : α) (hz : zs.toList = f x) (n : Nat) : (madeCells zs (n * k)).toList = (List.replicate n x).flatMap f := by
  have hs : zs.size = k := by rw [← hf x, ← hz]; simp
  apply List.ext_getElem?
  intro m
  by_cases hm : m < n * k
  · have hi : m / k < n := by rw [Nat.div_lt_iff_lt_mul hk]; exact hm
    have hj : m % k < k := Nat.mod_lt _ hk
    have hv : (f x)[m % k]? = some (zs[m % k]'(by omega)) := by rw [← hz]; simp [hs, hj]
    have h2 := flat_at (f := f) hf (xs := List.replicate n x) (i := m / k) (j := m % k) (x := x) (by rw [List.getElem?_replicate]; simp [hi]) hv
    rw [Nat.mul_comm, Nat.div_add_mod] at h2
    rw [h2]
    simp [madeCells, hm, hs, hj]
  · rw [List.getElem?_eq_none (by simp [madeCells]; omega), List.getElem?_eq_none (by rw [flat_length hf, List.length_replicate]; omega)]
/-- A slice at address a reads as the list of records. -/
def RecR {α : Type} (f : α → List Value) (k : Nat) (w : World) (a : Option Addr) (xs : List α) : Prop :=
  ∀ i x, xs[i]? = some x → ∃ b o, a = some ⟨b, o, none⟩ ∧ b < w.heap.size ∧ ∀ j v, (f x)[j]? = some v → w.cell? ⟨b, o + i * k + j, none⟩ = some v
section
variable {α : Type} {f : α → List Value} {k : Nat} {w w' : World} {a : Option Addr} {xs : List α}
theorem RecR.old (h : RecR f k w a xs) (hb : Below w.heap.size w w') : RecR f k w' a xs := by
  intro i x hx
  obtain ⟨b, o, ha, hlt, hc⟩ := h i x hx
  exact ⟨b, o, ha, Nat.lt_of_lt_of_le hlt hb.size, fun j v hv => (hb.cell (p := ⟨b, o + i * k + j, none⟩) hlt).trans (hc j v hv)⟩
theorem RecR.keeps {S : Nat → Prop} (h : RecR f k w a xs) (hk : Keeps S w w') (hs : ∀ b o, a = some ⟨b, o, none⟩ → ¬ S b) : RecR f k w' a xs := by
  intro i x hx
  obtain ⟨b, o, ha, hlt, hc⟩ := h i x hx
  exact ⟨b, o, ha, Nat.lt_of_lt_of_le hlt hk.size, fun j v hv => (World.cell?_of_block (w := w) (hk.block b hlt (hs b o ha))).trans (hc j v hv)⟩
theorem RecR.drewN (h : RecR f k w a xs) (n : Nat) : RecR f k (w.drewN n) a xs := h
theorem RecR.nil (a : Option Addr) : RecR f k w a [] := fun i x h => by simp at h
end

/-- The call owns the row of records; its block lies from B on, below U. -/
structure OwnF {α : Type} (f : α → List Value) (k : Nat) (T : TypeId) (w : World) (B U : Nat) (a : Option Addr) (n c : Nat) (xs : List α) : Prop where
  le : U ≤ w.heap.size
  row : w.ownsRow B T k (.slice a n c) n (xs.flatMap f)
  hi : ∀ b, (Value.slice a n c).ownBlock = some b → b < U
section
variable {α : Type} {f : α → List Value} {k : Nat} {T : TypeId} {w w' : World} {B U : Nat} {a : Option Addr} {n c : Nat} {xs : List α}
theorem ownBlock_slice (b o n c : Nat) : (Value.slice (some ⟨b, o, none⟩) n c).ownBlock = some b := rfl
theorem OwnF.length (hf : ∀ x, (f x).length = k) (hk : 0 < k) (h : OwnF f k T w B U a n c xs) : n = xs.length := by
  have := h.row.1
  rw [flat_length hf] at this
  exact (Nat.eq_of_mul_eq_mul_right hk this).symm
theorem OwnF.form (h : OwnF f k T w B U a n c xs) (hn : 0 < n) : ∃ g, a = some ⟨g, 0, none⟩ ∧ B ≤ g ∧ g < U := by
  rcases h.row.2 with ⟨hv, _⟩ | ⟨g, cap, cur, hv, hB, _⟩
  · injection hv with _ h2 _; omega
  · injection hv with h1 h2 h3
    subst h1
    exact ⟨g, rfl, hB, h.hi g rfl⟩
theorem OwnF.at_ (hf : ∀ x, (f x).length = k) (h : OwnF f k T w B U a n c xs) {i j : Nat} {x : α} {v : Value} (hx : xs[i]? = some x) (hv : (f x)[j]? = some v) : ∃ g, a = some ⟨g, 0, none⟩ ∧ B ≤ g ∧ g < U ∧ w.cell? ⟨g, i * k + j, none⟩ = some v := by
  have hp := flat_at hf hx hv
  have hi := (List.getElem?_eq_some_iff.1 hp).1
  rcases h.row.2 with ⟨_, h0⟩ | ⟨g, cap, cur, hv', hB, rest⟩
  · have hl := h.row.1
    rw [h0, Nat.zero_mul] at hl
    omega
  · injection hv' with h1 h2 h3
    subst h1
    refine ⟨g, rfl, hB, h.hi g rfl, ?_⟩
    have := World.ownsRow.cellAt h.row (i * k + j) (by rw [← h.row.1]; exact hi)
    rw [this]; exact hp
theorem OwnF.reads (hf : ∀ x, (f x).length = k) (hk : 0 < k) (h : OwnF f k T w B U a n c xs) : RecR f k w a xs := by
  intro i x hx
  obtain ⟨v, hv⟩ : ∃ v, (f x)[0]? = some v := ⟨(f x)[0]'(by rw [hf]; exact hk), List.getElem?_eq_getElem _⟩
  obtain ⟨g, ha, _, hg, _⟩ := h.at_ hf hx hv
  refine ⟨g, 0, ha, Nat.lt_of_lt_of_le hg h.le, fun j u hu => ?_⟩
  obtain ⟨g', ha', _, _, hc⟩ := h.at_ hf hx hu
  rw [ha] at ha'
  simp only [Option.some.injEq, Addr.mk.injEq, and_true] at ha'
  subst ha'
  rw [Nat.zero_add]; exact hc
theorem OwnF.keeps {S : Nat → Prop} (h : OwnF f k T w B U a n c xs) (hk : Keeps S w w') (hs : ∀ b, B ≤ b → b < U → ¬ S b) : OwnF f k T w' B U a n c xs :=
  ⟨Nat.le_trans h.le hk.size, ownsRow_block h.row fun g hg => hk.block g (Nat.lt_of_lt_of_le (h.hi g hg) h.le) (hs g (h.row.lt g hg).1 (h.hi g hg)), h.hi⟩
theorem OwnF.old (h : OwnF f k T w B U a n c xs) (hb : Below w.heap.size w w') : OwnF f k T w' B U a n c xs := h.keeps (S := fun _ => False) (Keeps.of_below hb) (fun _ _ _ x => x)
theorem OwnF.drewN (h : OwnF f k T w B U a n c xs) (q : Nat) : OwnF f k T (w.drewN q) B U a n c xs := h.old (below_ofDrewN _ _ _)
theorem OwnF.up {V : Nat} (h : OwnF f k T w B U a n c xs) (hUV : U ≤ V) (hV : V ≤ w.heap.size) : OwnF f k T w B V a n c xs := ⟨hV, h.row, fun b hb => Nat.lt_of_lt_of_le (h.hi b hb) hUV⟩
/-- One cell of one record is stored to. -/
theorem OwnF.set (hf : ∀ x, (f x).length = k) {g i j : Nat} {x y : α} {v : Value} (h : OwnF f k T w B U (some ⟨g, 0, none⟩) n c xs) (hx : xs[i]? = some x) (hj : j < k) (hy : (f x).set j v = f y) :
    OwnF f k T (w.setCell ⟨g, i * k + j, none⟩ v) B U (some ⟨g, 0, none⟩) n c (xs.set i y) ∧ Keeps (· = g) w (w.setCell ⟨g, i * k + j, none⟩ v) ∧ w.frozen? ⟨g, i * k + j, none⟩ = false := by
  have hs := World.ownsRow.stored h.row (i * k + j) v
  refine ⟨⟨Nat.le_trans h.le hs.2.size, ?_, h.hi⟩, ⟨hs.2.os, hs.2.tape, hs.2.output, hs.2.size, fun q hq hne => hs.2.block q hq (by simpa using hne)⟩, World.ownsRow.frozenAt h.row (i * k + j)⟩
  rw [← flat_set hf hx hj hy]; exact hs.1
end

/-- What an append of one record to a row of the call's own asks of the element's type. -/
structure RecT {α : Type} (f : α → List Value) (k : Nat) (t T : TypeId) (z : Value) (bytes : Nat) : Prop where
  len : ∀ x, (f x).length = k
  pos : 0 < k
  under : Tryd.prog.underlying t = some (.slice T)
  info : (Tryd.prog.info? T).map (fun i => (i.zero, i.size, i.bytes)) = some (some z, k, bytes)
  zero : z.cells.size = k
  one : ∀ x, ∀ u ∈ f x, u.oneCell' = true
  small : bytes ≤ 64
section
variable {α : Type} {f : α → List Value} {k : Nat} {t T : TypeId} {z : Value} {bytes : Nat}
theorem run_append_rec (R : RecT f k t T z bytes) (ty : TypeId) (W : World) (B U : Nat) (a : Option Addr) (n c : Nat) (xs : List α) (hown : OwnF f k T W B U a n c xs) (y : α) (hB : B ≤ W.heap.size) (hn : n ≤ 1099511627776) :
    ∃ a' c' w', (Builtin.append_ #[t, t] ty #[.slice a n c, .slice (some ⟨W.heap.size, 0, none⟩) 1 1]).run Tryd.prog (W.alloc (.cells (f y).toArray T)) = .ok (.slice a' (n + 1) c') w' ∧
      OwnF f k T w' B w'.heap.size a' (n + 1) c' (xs ++ [y]) ∧ Keeps (fun b => (Value.slice a n c).ownBlock = some b) W w' := by
  obtain ⟨i, hi, hz0, hz1, hz2⟩ := info_parts R.info
  have hs := R.small
  have hbig : (n + 1) * bytes ≤ 140737488355328 := by
    have := Nat.mul_le_mul_left (n + 1) hs
    omega
  obtain ⟨v', w', hr, h2, h3, h4⟩ := run_append_own (P := Tryd.prog) (W.alloc (.cells (f y).toArray T)) B t ty T i z k bytes R.under hi hz0 hz1 hz2 R.zero R.pos _ n _ (hown.row.alloc _) ⟨W.heap.size, 0, none⟩ 1 1 (f y) (by rw [R.len, Nat.one_mul]) (cells_new _ _ _) (R.one y) (by unfold maxLen; omega) hbig (by simp; omega)
  rw [← flat_snoc] at h2
  have hlen : (xs ++ [y]).length = n + 1 := by
    have := h2.1
    rw [flat_length R.len] at this
    exact Nat.eq_of_mul_eq_mul_right R.pos this
  obtain ⟨a', c', rfl, hhi⟩ : ∃ a' c', v' = .slice a' (n + 1) c' ∧ ∀ b, (Value.slice a' (n + 1) c').ownBlock = some b → b < w'.heap.size := by
    rcases h2.2 with ⟨_, h0⟩ | ⟨g, cap, cur, rfl, _, hg, _⟩
    · omega
    · refine ⟨_, _, rfl, fun b hb => ?_⟩
      rw [ownBlock_slice] at hb
      simp only [Option.some.injEq] at hb
      subst hb
      exact (Array.getElem?_eq_some_iff.1 hg).1
  refine ⟨a', c', w', hr, ⟨Nat.le_refl _, h2, hhi⟩, ?_⟩
  refine (Keeps.of_below ((Below.refl _ _).alloc (Nat.le_refl _) _)).trans (S := fun b => (Value.slice a n c).ownBlock = some b) ⟨h3.os, h3.tape, h3.output, h3.size, fun b hb hne => h3.block b hb fun e => hne e.symm⟩
theorem wpList_append_rec (R : RecT f k t T z bytes) {ops : Array Oper} {rest : List Oper} {o : Oper} {ac : Act} {Q : Exit → Act → World → Prop} (hgd : o.guard = none) (s x : Operand)
    (ho : o.op = .call { callee := .builtin .append, args := #[s, x], argTypes := #[t, t] })
    (W : World) (B U : Nat) (a : Option Addr) (n c : Nat) (xs : List α) (hown : OwnF f k T W B U a n c xs) (hs : ac.eval s = .slice a n c) (y : α) (vs : Array Value) (hvs : vs = (f y).toArray) (hx : ac.eval x = .slice (some ⟨W.heap.size, 0, none⟩) 1 1) (hB : B ≤ W.heap.size) (hn : n ≤ 1099511627776)
    (h : ∀ a' c' w', OwnF f k T w' B w'.heap.size a' (n + 1) c' (xs ++ [y]) → Keeps (fun b => (Value.slice a n c).ownBlock = some b) W w' → wpList Tryd.prog ops Q rest (ac.put o.dst (.slice a' (n + 1) c')) w') :
    wpList Tryd.prog ops Q (o :: rest) ac (W.alloc (.cells vs T)) := by
  subst hvs
  obtain ⟨a', c', w', hr, h2, h3⟩ := run_append_rec R o.type W B U a n c xs hown y hB hn
  refine wpList_plain hgd fun K hK => ?_
  unfold Oper.wp execOp
  simp only [ho, resolve, invoke, builtin, Sem.run_bind, Sem.run_pure, Result.andThen_ok, List.map_toArray, List.map_cons, List.map_nil, hs, hx, hr]
  exact hK _ _ (h a' c' w' h2 h3)
end
end Go.Proofs.YtggjheapjklhgaaDoor
