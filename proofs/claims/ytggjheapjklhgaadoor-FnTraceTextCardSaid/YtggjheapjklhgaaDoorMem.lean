/- Memory: a slice of ints that reads as a list; a row of ints that a call owns; what a call leaves alone. -/
import Derived.Test.YtggjheapjklhgaaDoorChecked
import Derived.WalkKit
import Derived.WalkLawsBesides
import Derived.Deep.Draws
import Derived.BigQuiet
import Derived.Deep.Quiet
namespace Go.Proofs.YtggjheapjklhgaaDoor
open Go.RowKit

theorem infoInt : (Tryd.prog.info? 3).map (fun i => (i.zero, i.size, i.bytes)) = some (some (.int .i64 0), 1, 8) := by kernel_rfl

theorem hid {p : Prop} (h : p) : Hid p := h

/-- A slice at address a reads as the list of ints. -/
def IntsR (w : World) (a : Option Addr) (xs : List Int) : Prop := ∀ i x, xs[i]? = some x → ∃ b o, a = some ⟨b, o, none⟩ ∧ b < w.heap.size ∧ w.cell? ⟨b, o + i, none⟩ = some (.int .i64 x)

/-- The call owns block g, which holds the ints. -/
def IRow (w : World) (g n cap : Nat) (xs : List Int) : Prop := w.ownsRow g 3 1 (.slice (some ⟨g, 0, none⟩) n cap) n (xs.map (Value.int .i64))

/-- Nothing that was there has changed, but for the blocks of S. -/
structure Keeps (S : Nat → Prop) (w w' : World) : Prop where
  os : w'.os = w.os
  tape : w'.tape = w.tape
  output : w'.output = w.output
  size : w.heap.size ≤ w'.heap.size
  block : ∀ k, k < w.heap.size → ¬ S k → w'.heap[k]? = w.heap[k]?

theorem Keeps.refl (S : Nat → Prop) (w : World) : Keeps S w w := ⟨rfl, rfl, rfl, Nat.le_refl _, fun _ _ _ => rfl⟩
theorem Keeps.trans {S : Nat → Prop} {a b c : World} (h : Keeps S a b) (k : Keeps S b c) : Keeps S a c :=
  ⟨k.os.trans h.os, k.tape.trans h.tape, k.output.trans h.output, Nat.le_trans h.size k.size, fun i hi hs => (k.block i (Nat.lt_of_lt_of_le hi h.size) hs).trans (h.block i hi hs)⟩
theorem Keeps.mono {S T : Nat → Prop} {w w' : World} (h : Keeps S w w') (hs : ∀ k, k < w.heap.size → S k → T k) : Keeps T w w' :=
  ⟨h.os, h.tape, h.output, h.size, fun k hk ht => h.block k hk fun x => ht (hs k hk x)⟩
theorem Keeps.of_below {S : Nat → Prop} {w w' : World} (h : Below w.heap.size w w') : Keeps S w w' := ⟨h.os, h.tape, h.output, h.size, fun k hk _ => h.block k hk⟩
theorem Keeps.below {B : Nat} {S : Nat → Prop} {w w' : World} (h : Keeps S w w') (hB : B ≤ w.heap.size) (hs : ∀ k, k < B → ¬ S k) : Below B w w' :=
  ⟨h.os, h.tape, h.output, h.size, fun k hk => h.block k (by omega) (hs k hk)⟩
theorem below_ofDrewN (B : Nat) (w : World) (n : Nat) : Below B w (w.drewN n) := below_drewN (Below.refl _ _) n

theorem below_step {w w1 w2 : World} {B : Nat} (h : Below B w w1) (k : Below w1.heap.size w1 w2) (hB : B ≤ w.heap.size) : Below B w w2 := h.trans (k.mono (Nat.le_trans hB h.size))
/-- All old cells and marks read as before. -/
theorem bcell {W w1 : World} {B : Nat} (hb : Below B W w1) : (∀ b o, b < B → w1.cell? ⟨b, o, none⟩ = W.cell? ⟨b, o, none⟩) ∧ (∀ b o, b < B → w1.frozen? ⟨b, o, none⟩ = W.frozen? ⟨b, o, none⟩) :=
  ⟨fun b o h => hb.cell (p := ⟨b, o, none⟩) h, fun b o h => hb.frozen (p := ⟨b, o, none⟩) h⟩

theorem IntsR.below {w w' : World} {a : Option Addr} {xs : List Int} {B : Nat} (h : IntsR w a xs) (hb : Below B w w') (hB : ∀ b o, a = some ⟨b, o, none⟩ → b < B) : IntsR w' a xs := by
  intro i x hx
  obtain ⟨b, o, ha, hlt, hc⟩ := h i x hx
  exact ⟨b, o, ha, Nat.lt_of_lt_of_le hlt hb.size, (hb.cell (p := ⟨b, o + i, none⟩) (hB b o ha)).trans hc⟩
theorem IntsR.old {w w' : World} {a : Option Addr} {xs : List Int} (h : IntsR w a xs) (hb : Below w.heap.size w w') : IntsR w' a xs := by
  intro i x hx
  obtain ⟨b, o, ha, hlt, hc⟩ := h i x hx
  exact ⟨b, o, ha, Nat.lt_of_lt_of_le hlt hb.size, (hb.cell (p := ⟨b, o + i, none⟩) hlt).trans hc⟩
theorem IntsR.drop {w : World} {b o : Nat} {xs : List Int} (h : IntsR w (some ⟨b, o, none⟩) xs) (k : Nat) : IntsR w (some ⟨b, o + k, none⟩) (xs.drop k) := by
  intro i x hx
  rw [List.getElem?_drop] at hx
  obtain ⟨b', o', e, hlt, hc⟩ := h (k + i) x hx
  simp only [Option.some.injEq, Addr.mk.injEq, and_true] at e
  obtain ⟨rfl, rfl⟩ := e
  exact ⟨b, o + k, rfl, hlt, by rw [Nat.add_assoc]; exact hc⟩
theorem IntsR.drewN {w : World} {a : Option Addr} {xs : List Int} (h : IntsR w a xs) (n : Nat) : IntsR (w.drewN n) a xs := h
theorem IntsR.nil (w : World) (a : Option Addr) : IntsR w a [] := fun i x h => by simp at h

theorem IRow.length {w : World} {g n cap : Nat} {xs : List Int} (h : IRow w g n cap xs) : xs.length = n := by
  have := h.1; simpa using this
theorem IRow.lt {w : World} {g n cap : Nat} {xs : List Int} (h : IRow w g n cap xs) : g < w.heap.size := (World.ownsRow.lt h g rfl).2
theorem IRow.cell {w : World} {g n cap : Nat} {xs : List Int} (h : IRow w g n cap xs) {i : Nat} {x : Int} (hx : xs[i]? = some x) : w.cell? ⟨g, i, none⟩ = some (.int .i64 x) := by
  have hi : i < xs.length := (List.getElem?_eq_some_iff.1 hx).1
  have := World.ownsRow.cellAt h i (by rw [← h.length]; omega)
  rw [this]; simp [hx]
theorem IRow.frozen {w : World} {g n cap : Nat} {xs : List Int} (h : IRow w g n cap xs) (i : Nat) : w.frozen? ⟨g, i, none⟩ = false := World.ownsRow.frozenAt h i
theorem IRow.reads {w : World} {g n cap : Nat} {xs : List Int} (h : IRow w g n cap xs) : IntsR w (some ⟨g, 0, none⟩) xs := fun i x hx =>
  ⟨g, 0, rfl, h.lt, by rw [Nat.zero_add]; exact h.cell hx⟩
theorem ownsRow_block {w w' : World} {base : Nat} {e : TypeId} {size n : Nat} {v : Value} {xs : List Value} (h : w.ownsRow base e size v n xs) (hb : ∀ g, v.ownBlock = some g → w'.heap[g]? = w.heap[g]?) : w'.ownsRow base e size v n xs := by
  refine ⟨h.1, ?_⟩
  rcases h.2 with hn | ⟨g, cap, cur, rfl, hbg, hg, rest⟩
  · exact .inl hn
  · exact .inr ⟨g, cap, cur, rfl, hbg, (hb g rfl).trans hg, rest⟩
theorem IRow.keeps {S : Nat → Prop} {w w' : World} {g n cap : Nat} {xs : List Int} (h : IRow w g n cap xs) (hk : Keeps S w w') (hs : ¬ S g) : IRow w' g n cap xs :=
  ownsRow_block h fun g' hg' => by
    have e : g = g' := by simpa [Value.ownBlock] using hg'
    subst e
    exact hk.block g h.lt hs
theorem IRow.old {w w' : World} {g n cap : Nat} {xs : List Int} (h : IRow w g n cap xs) (hb : Below w.heap.size w w') : IRow w' g n cap xs :=
  h.keeps (S := fun _ => False) (Keeps.of_below hb) (fun x => x)
theorem IRow.drewN {w : World} {g n cap : Nat} {xs : List Int} (h : IRow w g n cap xs) (k : Nat) : IRow (w.drewN k) g n cap xs := h
theorem IRow.set {w : World} {g n cap : Nat} {xs : List Int} (h : IRow w g n cap xs) (j : Nat) (x : Int) : IRow (w.setCell ⟨g, j, none⟩ (.int .i64 x)) g n cap (xs.set j x) ∧ Keeps (· = g) w (w.setCell ⟨g, j, none⟩ (.int .i64 x)) := by
  have := World.ownsRow.stored h j (.int .i64 x)
  refine ⟨?_, ⟨this.2.os, this.2.tape, this.2.output, this.2.size, fun k hk hs => this.2.block k hk (by simpa using hs)⟩⟩
  have h1 := this.1
  rw [← List.map_set] at h1
  exact h1
theorem IRow.le_cap {w : World} {g n cap : Nat} {xs : List Int} (h : IRow w g n cap xs) : n ≤ cap := by
  rcases h.2 with ⟨hv, _⟩ | ⟨g', cap', cur, hv, _, _, hnc, _⟩
  · simp at hv
  · simp at hv; omega
theorem IRow.rebase {w : World} {B g n cap : Nat} {xs : List Int} (h : IRow w g n cap xs) (hB : B ≤ g) : w.ownsRow B 3 1 (.slice (some ⟨g, 0, none⟩) n cap) n (xs.map (Value.int .i64)) := by
  refine ⟨h.1, ?_⟩
  rcases h.2 with ⟨hv, _⟩ | ⟨g', cap', cur, hv, _, rest⟩
  · simp at hv
  · have : g = g' := by simp at hv; exact hv.1
    exact .inr ⟨g', cap', cur, hv, by omega, rest⟩
theorem IRow.of_owns {w : World} {B n : Nat} {v : Value} {xs : List Int} (h : w.ownsRow B 3 1 v n (xs.map (Value.int .i64))) (hn : v ≠ .slice none 0 0) : ∃ g cap, v = .slice (some ⟨g, 0, none⟩) n cap ∧ B ≤ g ∧ IRow w g n cap xs := by
  rcases h.2 with ⟨hv, _⟩ | ⟨g', cap', cur, hv, hB, rest⟩
  · exact absurd hv hn
  · subst hv
    exact ⟨g', cap', rfl, hB, h.1, .inr ⟨g', cap', cur, rfl, Nat.le_refl _, rest⟩⟩
theorem IRow.empty (w : World) : IRow (w.alloc (.cells #[] 3)) w.heap.size 0 0 [] := by
  have := World.ownsRow_lit (base := w.heap.size) (e := 3) (size := 1) w #[] 0 (Nat.le_refl _) (by unfold maxLen; omega) (by simp)
  simpa [IRow] using this
/-- The cells of a new block. -/
theorem cells_new (w : World) (l : List Value) (t : TypeId) : ∀ j u, l[j]? = some u → (w.alloc (.cells l.toArray t)).cell? ((⟨w.heap.size, 0, none⟩ : Addr).add j) = some u := by
  intro j u hu
  have e : (⟨w.heap.size, 0, none⟩ : Addr).add j = ⟨w.heap.size, j, none⟩ := by unfold Addr.add; split <;> simp_all
  rw [e, cell_of_row _ w.heap.size j l.toArray t (0, 0) (heap_alloc_new w _)]
  simpa using hu
/-- append of one int to a row of the call's own: the row is (perhaps) a new one, one longer. -/
theorem wpList_append_int {ops : Array Oper} {rest : List Oper} {o : Oper} {a : Act} {Q : Exit → Act → World → Prop} (hgd : o.guard = none) (s x : Operand)
    (ho : o.op = .call { callee := .builtin .append, args := #[s, x], argTypes := #[37, 37] })
    (W : World) (B n : Nat) (v : Value) (xs : List Int) (hown : W.ownsRow B 3 1 v n (xs.map (Value.int .i64))) (hs : a.eval s = v) (y : Int) (hx : a.eval x = .slice (some ⟨W.heap.size, 0, none⟩) 1 1) (hB : B ≤ W.heap.size) (hn : n ≤ 1099511627776)
    (h : ∀ g' cap' w', B ≤ g' → IRow w' g' (n + 1) cap' (xs ++ [y]) → Below B W w' → wpList Tryd.prog ops Q rest (a.put o.dst (.slice (some ⟨g', 0, none⟩) (n + 1) cap')) w') :
    wpList Tryd.prog ops Q (o :: rest) a (W.alloc (.cells #[.int .i64 y] 3)) := by
  obtain ⟨i0, hi, hz0, hz1, hz2⟩ := info_parts infoInt
  have hlt := hown.lt
  refine wpList_append_own _ hgd s x 37 ho B 3 i0 (.int .i64 0) 1 8 Tryd.underlying37 hi hz0 hz1 hz2 rfl (by decide) v n (xs.map (Value.int .i64)) hs (hown.alloc _) ⟨W.heap.size, 0, none⟩ 1 1 [.int .i64 y] hx rfl (cells_new _ _ _) (ints_oneCell .i64 [y]) (by unfold maxLen; omega) (by omega) (by simp; omega) ?_
  intro v' w' hown' hgrow hnil
  have hown2 : w'.ownsRow B 3 1 v' (n + 1) ((xs ++ [y]).map (Value.int .i64)) := by rw [List.map_append]; exact hown'
  obtain ⟨g', cap', rfl, hg, hrow⟩ := IRow.of_owns hown2 (by
    intro hv
    rw [hv] at hown'
    rcases hown'.2 with ⟨_, h0⟩ | ⟨_, _, _, h1, _⟩
    · omega
    · cases h1)
  refine h g' cap' w' hg hrow (((Below.refl B W).alloc hB _).grown hgrow (by simp; omega) fun k hk => (hlt k (by simpa using hk)).1)

/-- What a call hands back as a slice of ints: it has the elements xs; where there are any they lie in one block of the call's own, from B on. -/
structure OwnS (w : World) (B : Nat) (a : Option Addr) (n c : Nat) (xs : List Int) : Prop where
  length : n = xs.length
  cap : n ≤ c
  row : n ≠ 0 → ∃ g, a = some ⟨g, 0, none⟩ ∧ B ≤ g ∧ IRow w g n c xs
/-- The blocks of such a slice. -/
def blkS (a : Option Addr) (n : Nat) (b : Nat) : Prop := n ≠ 0 ∧ a = some ⟨b, 0, none⟩
theorem OwnS.of_row {w : World} {B g n c : Nat} {xs : List Int} (h : IRow w g n c xs) (hB : B ≤ g) : OwnS w B (some ⟨g, 0, none⟩) n c xs := ⟨h.length.symm, h.le_cap, fun _ => ⟨g, rfl, hB, h⟩⟩
theorem OwnS.empty (w : World) (B : Nat) (a : Option Addr) (c : Nat) : OwnS w B a 0 c [] := ⟨rfl, Nat.zero_le _, fun h => absurd rfl h⟩
theorem OwnS.reads {w : World} {B : Nat} {a : Option Addr} {n c : Nat} {xs : List Int} (h : OwnS w B a n c xs) : IntsR w a xs := by
  by_cases hn : n = 0
  · have : xs = [] := List.eq_nil_of_length_eq_zero (by rw [← h.length]; exact hn)
    subst this; exact IntsR.nil _ _
  · obtain ⟨g, rfl, _, hr⟩ := h.row hn
    exact hr.reads
theorem OwnS.lt {w : World} {B : Nat} {a : Option Addr} {n c : Nat} {xs : List Int} (h : OwnS w B a n c xs) {b : Nat} (hb : blkS a n b) : B ≤ b ∧ b < w.heap.size := by
  obtain ⟨g, ha, hB, hr⟩ := h.row hb.1
  have e : g = b := by have := hb.2; rw [ha] at this; simpa using this
  subst e
  exact ⟨hB, hr.lt⟩
theorem OwnS.keeps {S : Nat → Prop} {w w' : World} {B : Nat} {a : Option Addr} {n c : Nat} {xs : List Int} (h : OwnS w B a n c xs) (hk : Keeps S w w') (hs : ∀ b, blkS a n b → ¬ S b) : OwnS w' B a n c xs :=
  ⟨h.length, h.cap, fun hn => by
    obtain ⟨g, rfl, hB, hr⟩ := h.row hn
    exact ⟨g, rfl, hB, hr.keeps hk (hs g ⟨hn, rfl⟩)⟩⟩
theorem OwnS.old {w w' : World} {B : Nat} {a : Option Addr} {n c : Nat} {xs : List Int} (h : OwnS w B a n c xs) (hb : Below w.heap.size w w') : OwnS w' B a n c xs :=
  h.keeps (S := fun _ => False) (Keeps.of_below hb) (fun _ _ x => x)
theorem OwnS.drewN {w : World} {B : Nat} {a : Option Addr} {n c : Nat} {xs : List Int} (h : OwnS w B a n c xs) (k : Nat) : OwnS (w.drewN k) B a n c xs := ⟨h.length, h.cap, h.row⟩
theorem OwnS.mono {w : World} {B B' : Nat} {a : Option Addr} {n c : Nat} {xs : List Int} (h : OwnS w B a n c xs) (hB : B' ≤ B) : OwnS w B' a n c xs :=
  ⟨h.length, h.cap, fun hn => by obtain ⟨g, e, hb, hr⟩ := h.row hn; exact ⟨g, e, by omega, hr⟩⟩
theorem Keeps.drewN {S : Nat → Prop} {w w' : World} (h : Keeps S w w') (k : Nat) : Keeps S w (w'.drewN k) := ⟨h.os, h.tape, h.output, h.size, h.block⟩
theorem Keeps.ofDrewN (S : Nat → Prop) (w : World) (k : Nat) : Keeps S w (w.drewN k) := (Keeps.refl S w).drewN k

/-- A made row of ints. -/
theorem IRow.made {w : World} {g n : Nat} (h : w.ownsRow g 3 1 (.slice (some ⟨g, 0, none⟩) n n) n (madeCells (Value.int .i64 0).cells (n * 1)).toList) : IRow w g n n (List.replicate n 0) := by
  have e : (List.replicate n (0 : Int)).map (Value.int .i64) = (madeCells (Value.int .i64 0).cells (n * 1)).toList := by
    rw [List.map_replicate]; simp [Value.cells, toList_madeCells_one]
  unfold IRow; rw [e]; exact h

/-- An argument that is a slice of ints: nil, or a row of which the first len are the elements. -/
structure ArgInts (w : World) (a : Option Addr) (len cap : Nat) (zs : List Int) : Prop where
  reads : IntsR w a (zs.take len)
  length : len = (zs.take len).length
  wf : ∀ n ∈ zs.take len, -9223372036854775808 ≤ n ∧ n ≤ 9223372036854775807
theorem ArgInts.nil (w : World) : ArgInts w none 0 0 [] := ⟨IntsR.nil _ _, rfl, fun n h => by simp at h⟩
theorem wf_i64 {n : Int} (h : (Lit.int .i64 n).wf = true) : -9223372036854775808 ≤ n ∧ n ≤ 9223372036854775807 := by
  simp [Lit.wf] at h; exact h
theorem ArgInts.some {w : World} {x : Addr} {len cap : Nat} {zs : List Int} (hl : len ≤ cap) (_hm : cap ≤ maxLen) (hz : zs.length = cap) (hc : ∀ i, i < zs.length → w.cell? (x.add i) = some (.int .i64 (zs.getD i 0))) (hw : ∀ n ∈ zs, (Lit.int .i64 n).wf = true) : ArgInts w (Option.some x) len cap zs := by
  refine ⟨fun i y hy => ?_, by simp; omega, fun n hn => wf_i64 (hw n (List.mem_of_mem_take hn))⟩
  have hi : i < len ∧ zs[i]? = Option.some y := by
    rw [List.getElem?_take] at hy
    split at hy
    · exact ⟨by assumption, hy⟩
    · cases hy
  have h0 := hc 0 (by omega)
  have hs : x.spot = Option.none := by
    simp only [Addr.add, if_true] at h0
    unfold World.cell? at h0
    split at h0
    · cases e : x.spot with
      | none => rfl
      | some q => simp [e] at h0
    · cases h0
  obtain ⟨b, o, sp⟩ := x
  simp only at hs
  subst hs
  have hcell : w.cell? ⟨b, o + i, Option.none⟩ = Option.some (.int .i64 y) := by
    have := hc i (by omega)
    have e : (⟨b, o, Option.none⟩ : Addr).add i = ⟨b, o + i, Option.none⟩ := by unfold Addr.add; split <;> simp_all
    rw [e] at this
    rw [this, List.getD_eq_getElem?_getD, hi.2]; rfl
  exact ⟨b, o, rfl, World.block_lt_of_cell? w _ hcell, hcell⟩
end Go.Proofs.YtggjheapjklhgaaDoor

/- Memory, more: append of a whole slice to a row of the call's own, at whatever element type. -/
namespace Go.Proofs.YtggjheapjklhgaaDoor
open Go.RowKit

/-- A callee that leaves the world alone, inside a region that draws. -/
theorem quietS {P : Program} {f : FuncId} {args : Array Value} {w : World} {n : Nat} {v : Value}
    (h : Calls P f args (w.drewN n) fun e w' => e = .returned v ∧ w.drewN n = w') : Calls P f args (w.drewN n) fun e w'' => e = .returned v ∧ ∃ m, w'' = w.drewN m :=
  h.mono fun _ _ ⟨he, hm⟩ => ⟨he, n, hm.symm⟩
/-- The world under one name, in the middle of a walk. -/
theorem wp_world {P : Program} {c : Code} {Q : Exit → Act → World → Prop} {a : Act} {w : World} (h : ∀ w', Hid (w' = w) → Code.wp P c Q a w') : Code.wp P c Q a w := h w rfl
/-- The cells that a slice at address a shows. -/
def ReadsV (w : World) (a : Option Addr) (vs : List Value) : Prop := ∀ i v, vs[i]? = some v → ∃ b o, a = some ⟨b, o, none⟩ ∧ b < w.heap.size ∧ w.cell? ⟨b, o + i, none⟩ = some v
theorem IntsR.cells {w : World} {a : Option Addr} {xs : List Int} (h : IntsR w a xs) : ReadsV w a (xs.map (Value.int .i64)) := by
  intro i v hv
  rw [List.getElem?_map] at hv
  obtain ⟨x, hx, rfl⟩ := Option.map_eq_some_iff.1 hv
  exact h i x hx
theorem ReadsV.add {w : World} {b o : Nat} {vs : List Value} (h : ReadsV w (some ⟨b, o, none⟩) vs) : ∀ j u, vs[j]? = some u → w.cell? ((⟨b, o, none⟩ : Addr).add j) = some u := by
  intro j u hu
  obtain ⟨b', o', e, _, hc⟩ := h j u hu
  simp only [Option.some.injEq, Addr.mk.injEq, and_true] at e
  obtain ⟨rfl, rfl⟩ := e
  have e : (⟨b, o, none⟩ : Addr).add j = ⟨b, o + j, none⟩ := by unfold Addr.add; split <;> simp_all
  rw [e]; exact hc
theorem ReadsV.old {w w' : World} {a : Option Addr} {vs : List Value} (h : ReadsV w a vs) (hb : Below w.heap.size w w') : ReadsV w' a vs := by
  intro i x hx
  obtain ⟨b, o, ha, hlt, hc⟩ := h i x hx
  exact ⟨b, o, ha, Nat.lt_of_lt_of_le hlt hb.size, (hb.cell (p := ⟨b, o + i, none⟩) hlt).trans hc⟩

theorem run_append_none {P : Program} (w : World) (base : Nat) (t ty e : TypeId) (i : TypeInfo) (size : Nat) (ht : P.underlying t = some (.slice e)) (hi : P.info? e = some i)
    (v : Value) (n c : Nat) (xs : List Value) (hown : w.ownsRow base e size v n xs) :
    (Builtin.append_ #[t, t] ty #[v, .slice none 0 c]).run P w = .ok v w := by
  rcases hown.2 with ⟨rfl, rfl⟩ | ⟨g, cap, cur, rfl, _, _, hnc, _⟩
  · simp [Builtin.append_, run_underlying ht, sizeOf, typeInfo, hi, Builtin.lenOf, Builtin.firstCells]
  · simp [Builtin.append_, run_underlying ht, sizeOf, typeInfo, hi, Builtin.lenOf, Builtin.firstCells, hnc, storeCells]

/-- append of a slice that reads as 'news' to a row that the call owns. -/
theorem run_append_src {P : Program} (w : World) (base : Nat) (t ty e : TypeId) (z : Value) (size bytes : Nat) (ht : P.underlying t = some (.slice e))
    (hI : (P.info? e).map (fun i => (i.zero, i.size, i.bytes)) = some (some z, size, bytes)) (hzs : z.cells.size = size) (hsz : 0 < size)
    (v : Value) (n : Nat) (xs : List Value) (hown : w.ownsRow base e size v n xs)
    (a : Option Addr) (m c : Nat) (news : List Value) (hl : news.length = m * size) (hnews : ReadsV w a news) (h1 : ∀ u ∈ news, u.oneCell' = true)
    (hbytes : (n + m) * bytes ≤ 140737488355328) (h63 : n + m ≤ maxLen) (hbase : base ≤ w.heap.size) :
    ∃ v' w', (Builtin.append_ #[t, t] ty #[v, .slice a m c]).run P w = .ok v' w' ∧ w'.ownsRow base e size v' (n + m) (xs ++ news) ∧ Below base w w' ∧
      (v' = .slice none 0 0 ↔ v = .slice none 0 0 ∧ m = 0) := by
  obtain ⟨i, hi, hz0, hz1, hz2⟩ := info_parts hI
  have hlt := hown.lt
  have fin : ∀ (ad : Addr), a = some ad → (∀ j u, news[j]? = some u → w.cell? (ad.add j) = some u) → _ := fun ad _ hc =>
    run_append_own (P := P) w base t ty e i z size bytes ht hi hz0 hz1 hz2 hzs hsz v n xs hown ad m c news hl hc h1 h63 hbytes hbase
  cases a with
  | none =>
    have hm : news = [] := by
      cases news with
      | nil => rfl
      | cons u r => obtain ⟨b, o, e, _⟩ := hnews 0 u rfl; cases e
    subst hm
    have hm0 : m = 0 := by
      simp only [List.length_nil] at hl
      rcases Nat.mul_eq_zero.1 hl.symm with h | h
      · exact h
      · omega
    subst hm0
    exact ⟨v, w, run_append_none w base t ty e i size ht hi v n c xs hown, by simpa using hown, Below.refl _ _, by simp⟩
  | some ad =>
    have hc : ∀ j u, news[j]? = some u → w.cell? (ad.add j) = some u := by
      intro j u hu
      obtain ⟨b, o, e, _, _⟩ := hnews j u hu
      obtain rfl : ad = ⟨b, o, none⟩ := by simpa using e
      exact hnews.add j u hu
    obtain ⟨v', w', hr, h2, h3, h4⟩ := fin ad rfl hc
    exact ⟨v', w', hr, h2, (Below.refl _ _).grown h3 hbase (fun k hk => (hlt k hk).1), h4⟩

theorem wpList_append_src {P : Program} {ops : Array Oper} {rest : List Oper} {o : Oper} {ac : Act} {Q : Exit → Act → World → Prop} (hgd : o.guard = none) (s x : Operand) (t : TypeId)
    (ho : o.op = .call { callee := .builtin .append, args := #[s, x], argTypes := #[t, t] })
    (w : World) (base : Nat) (e : TypeId) (z : Value) (size bytes : Nat) (ht : P.underlying t = some (.slice e))
    (hI : (P.info? e).map (fun i => (i.zero, i.size, i.bytes)) = some (some z, size, bytes)) (hzs : z.cells.size = size) (hsz : 0 < size)
    (v : Value) (n : Nat) (xs : List Value) (hown : w.ownsRow base e size v n xs) (hs : ac.eval s = v)
    (a : Option Addr) (m c : Nat) (news : List Value) (hl : news.length = m * size) (hnews : ReadsV w a news) (h1 : ∀ u ∈ news, u.oneCell' = true) (hx : ac.eval x = .slice a m c)
    (hbytes : (n + m) * bytes ≤ 140737488355328) (h63 : n + m ≤ maxLen) (hbase : base ≤ w.heap.size)
    (h : ∀ v' w', w'.ownsRow base e size v' (n + m) (xs ++ news) → Below base w w' → (v' = .slice none 0 0 ↔ v = .slice none 0 0 ∧ m = 0) → wpList P ops Q rest (ac.put o.dst v') w') : wpList P ops Q (o :: rest) ac w := by
  refine wpList_plain hgd fun K hK => ?_
  obtain ⟨v', w', hr, h2, h3, h4⟩ := run_append_src (P := P) w base t o.type e z size bytes ht hI hzs hsz v n xs hown a m c news hl hnews h1 hbytes h63 hbase
  unfold Oper.wp execOp
  simp only [ho, resolve, invoke, builtin, Sem.run_bind, Sem.run_pure, Result.andThen_ok, List.map_toArray, List.map_cons, List.map_nil, hs, hx, hr]
  exact hK _ _ (h v' w' h2 h3 h4)

/-- append of one int, as one step of a region that draws. -/
theorem step_append_int {ops : Array Oper} {o : Oper} {a : Act} {K : Act → World → Prop} {Q : Exit → Act → World → Prop} {E : Prop} (hgd : o.guard = none) (s x : Operand)
    (ho : o.op = .call { callee := .builtin .append, args := #[s, x], argTypes := #[37, 37] })
    (W : World) (B n : Nat) (v : Value) (xs : List Int) (hown : W.ownsRow B 3 1 v n (xs.map (Value.int .i64))) (hs : a.eval s = v) (y : Int) (hx : a.eval x = .slice (some ⟨W.heap.size, 0, none⟩) 1 1) (hB : B ≤ W.heap.size) (hn : n ≤ 1099511627776)
    (h : ∀ g' cap' w', B ≤ g' → IRow w' g' (n + 1) cap' (xs ++ [y]) → Below B W w' → K (a.put o.dst (.slice (some ⟨g', 0, none⟩) (n + 1) cap')) w') :
    if Region.wanted o (yielded ops a.tmps) = true then Oper.wp Tryd.prog o a (W.alloc (.cells #[.int .i64 y] 3)) K Q else E := by
  have hw : Region.wanted o (yielded ops a.tmps) = true := by simp [Region.wanted, hgd]
  rw [if_pos hw]
  obtain ⟨i0, hi, hz0, hz1, hz2⟩ := info_parts infoInt
  have hlt := hown.lt
  refine wp_append_own _ s x 37 ho B 3 i0 (.int .i64 0) 1 8 Tryd.underlying37 hi hz0 hz1 hz2 rfl (by decide) v n (xs.map (Value.int .i64)) hs (hown.alloc _) ⟨W.heap.size, 0, none⟩ 1 1 [.int .i64 y] hx rfl (cells_new _ _ _) (ints_oneCell .i64 [y]) (by unfold maxLen; omega) (by omega) (by simp; omega) ?_
  intro v' w' hown' hgrow hnil
  have hown2 : w'.ownsRow B 3 1 v' (n + 1) ((xs ++ [y]).map (Value.int .i64)) := by rw [List.map_append]; exact hown'
  obtain ⟨g', cap', rfl, hg, hrow⟩ := IRow.of_owns hown2 (by
    intro hv
    rw [hv] at hown'
    rcases hown'.2 with ⟨_, h0⟩ | ⟨_, _, _, h1, _⟩
    · omega
    · cases h1)
  exact h g' cap' w' hg hrow (((Below.refl B W).alloc hB _).grown hgrow (by simp; omega) fun k hk => (hlt k (by simpa using hk)).1)
/-- append of a slice of ints to a row of ints of the call's own. -/
theorem wpList_append_ints {ops : Array Oper} {rest : List Oper} {o : Oper} {ac : Act} {Q : Exit → Act → World → Prop} (hgd : o.guard = none) (s x : Operand)
    (ho : o.op = .call { callee := .builtin .append, args := #[s, x], argTypes := #[37, 37] })
    (w : World) (B g n cap : Nat) (xs : List Int) (hrow : IRow w g n cap xs) (hg : B ≤ g) (hs : ac.eval s = .slice (some ⟨g, 0, none⟩) n cap)
    (a : Option Addr) (m c : Nat) (ys : List Int) (hy : IntsR w a ys) (hm : m = ys.length) (hx : ac.eval x = .slice a m c) (N : Nat) (hN : n + m = N) (hb : n + m ≤ 1099511627776) (hB : B ≤ w.heap.size)
    (h : ∀ g' cap' w', B ≤ g' → IRow w' g' N cap' (xs ++ ys) → Below B w w' → wpList Tryd.prog ops Q rest (ac.put o.dst (.slice (some ⟨g', 0, none⟩) N cap')) w') :
    wpList Tryd.prog ops Q (o :: rest) ac w := by
  subst hN
  refine wpList_append_src hgd s x 37 ho w B 3 (.int .i64 0) 1 8 Tryd.underlying37 infoInt rfl (by decide) _ n _ (hrow.rebase hg) hs a m c (ys.map (Value.int .i64)) (by simp [hm]) hy.cells (ints_oneCell .i64 ys) hx (by omega) (by unfold maxLen; omega) hB ?_
  intro v' w' hown' hbel hnil
  rw [← List.map_append] at hown'
  obtain ⟨g', cap', rfl, hg', hrow'⟩ := IRow.of_owns hown' (by intro hv; have := (hnil.1 hv).1; cases this)
  exact h g' cap' w' hg' hrow' hbel
end Go.Proofs.YtggjheapjklhgaaDoor

/- Regions that draw their order, whose callees make memory: one walk of the lexical order, in every world in which what was there is unchanged. -/
namespace Go.Proofs.YtggjheapjklhgaaDoor
open Go.RowKit

/-- A world that has all of w, unchanged, and perhaps more. -/
structure Over (w : World) where
  wd : World
  below : Below w.heap.size w wd
instance {w : World} : Nonempty (Over w) := ⟨⟨w, Below.refl _ _⟩⟩
theorem Over.cell {w : World} (t : Over w) : ∀ b o, b < w.heap.size → t.wd.cell? ⟨b, o, none⟩ = w.cell? ⟨b, o, none⟩ := fun b o h => t.below.cell (p := ⟨b, o, none⟩) h
theorem below_alloc (w : World) (o : Obj) : Below w.heap.size w (w.alloc o) := (Below.refl _ _).alloc (Nat.le_refl _) _
/-- The rule that a region's walk uses. -/
theorem over_cell (w : World) : ∀ (t : Over w) (b o : Nat), b < w.heap.size → t.wd.cell? ⟨b, o, none⟩ = w.cell? ⟨b, o, none⟩ := fun t => t.cell
theorem wp_region_over {P : Program} {id : Nat} {Q : Exit → Act → World → Prop} {a : Act} {w : World} {l : List Oper} (hm : P.follows .mixedOrders = true) (hB : Region.lexB .any l.toArray = true)
    (h : wpQuiet P l.toArray (fun w' => ∃ t : Over w, w' = t.wd) (fun a' => ∀ w', Below w.heap.size w w' → Q .normal a' w') l a) : (Code.region id l.toArray true).wp P Q a w := by
  refine wp_region_quiet (C := fun w' => ∃ t : Over w, w' = t.wd) hm hB ⟨⟨_, below_ofDrewN w.heap.size w 1⟩, rfl⟩ ?_
  have e : (fun a' => ∀ w', (∃ t : Over w, w' = t.wd) → Q .normal a' w') = (fun a' => ∀ w', Below w.heap.size w w' → Q .normal a' w') := by
    funext a'
    apply propext
    constructor
    · intro h w' hb; exact h w' ⟨⟨w', hb⟩, rfl⟩
    · rintro h w' ⟨t, rfl⟩; exact h _ t.below
  rw [e]
  simpa using h
theorem calls_over {P : Program} {f : FuncId} {args : Array Value} {w : World} {t : Over w} {v : Value}
    (h : Calls P f args t.wd fun e w' => e = .returned v ∧ Below t.wd.heap.size t.wd w') : Calls P f args t.wd fun e w'' => e = .returned v ∧ ∃ t' : Over w, w'' = t'.wd :=
  h.mono fun _ _ ⟨he, hb⟩ => ⟨he, ⟨_, below_step t.below hb (Nat.le_refl _)⟩, rfl⟩
theorem calls_over_same {P : Program} {f : FuncId} {args : Array Value} {w : World} {t : Over w} {v : Value}
    (h : Calls P f args t.wd fun e w' => e = .returned v ∧ t.wd = w') : Calls P f args t.wd fun e w'' => e = .returned v ∧ ∃ t' : Over w, w'' = t'.wd :=
  h.mono fun _ _ ⟨he, hb⟩ => ⟨he, t, hb.symm⟩
theorem calls_over_drew {P : Program} {f : FuncId} {args : Array Value} {w : World} {t : Over w} {v : Value}
    (h : Calls P f args t.wd fun e w' => e = .returned v ∧ ∃ q, w' = t.wd.drewN q) : Calls P f args t.wd fun e w'' => e = .returned v ∧ ∃ t' : Over w, w'' = t'.wd :=
  calls_over (h.mono fun _ _ ⟨he, q, hb⟩ => ⟨he, by rw [hb]; exact below_ofDrewN _ _ _⟩)
theorem Keeps.set {S : Nat → Prop} {w w' : World} (h : Keeps S w w') (p : Addr) (v : Value) (hp : S p.block) : Keeps S w (w'.setCell p v) :=
  h.trans ⟨rfl, rfl, rfl, by simp, fun k _ hk => heap_setCell_other w' p k v (fun e => hk (by rw [e]; exact hp))⟩
theorem Keeps.alloc {S : Nat → Prop} {w w' : World} (h : Keeps S w w') (o : Obj) : Keeps S w (w'.alloc o) := h.trans (Keeps.of_below (below_alloc _ _))
theorem below_alloc2 (w : World) (o1 o2 : Obj) : Below w.heap.size w ((w.alloc o1).alloc o2) := ((Below.refl _ _).alloc (Nat.le_refl _) _).alloc (by simp) _
theorem below_alloc3 (w : World) (o1 o2 o3 : Obj) : Below w.heap.size w (((w.alloc o1).alloc o2).alloc o3) := (((Below.refl _ _).alloc (Nat.le_refl _) _).alloc (by simp) _).alloc (by simp; omega) _
theorem Keeps.cell {S : Nat → Prop} {w w' : World} (h : Keeps S w w') {b : Nat} (hb : b < w.heap.size) (hs : ¬ S b) (o : Nat) : w'.cell? ⟨b, o, none⟩ = w.cell? ⟨b, o, none⟩ :=
  World.cell?_of_block (w := w) (h.block b hb hs)
/-- A box that was laid before a call, behind it. -/
theorem Keeps.box {S : Nat → Prop} {w w' : World} {l : List Value} {t : TypeId} (h : Keeps S (w.alloc (.cells l.toArray t)) w') (hs : ¬ S w.heap.size) (o : Nat) : w'.cell? ⟨w.heap.size, o, none⟩ = l[o]? := by
  rw [h.cell (by simp) hs o, cell_of_row _ w.heap.size o l.toArray t (0, 0) (heap_alloc_new w _)]; simp
theorem box_at (w : World) (l : List Value) (t : TypeId) (j : Nat) : (w.alloc (.cells l.toArray t)).cell? ⟨w.heap.size, j, none⟩ = l[j]? := by
  rw [cell_of_row _ w.heap.size j l.toArray t (0, 0) (heap_alloc_new w _)]; simp
/-- Two boxes that were laid ahead of a third block, behind what leaves them alone. -/
theorem boxes2 {w w1 : World} {l1 l2 : List Value} {t1 t2 : TypeId} {o : Obj} (h : Below (w.heap.size + 1 + 1) (((w.alloc (.cells l1.toArray t1)).alloc (.cells l2.toArray t2)).alloc o) w1) (j : Nat) :
    w1.cell? ⟨w.heap.size, j, none⟩ = l1[j]? ∧ w1.cell? ⟨w.heap.size + 1, j, none⟩ = l2[j]? := by
  constructor
  · rw [h.cell (p := ⟨w.heap.size, j, none⟩) (by show w.heap.size < _; omega), World.cell?_alloc_lt _ _ _ (by simp; omega), World.cell?_alloc_lt _ _ _ (by simp), box_at]
  · rw [h.cell (p := ⟨w.heap.size + 1, j, none⟩) (by show w.heap.size + 1 < _; omega), World.cell?_alloc_lt _ _ _ (by simp)]
    simp
end Go.Proofs.YtggjheapjklhgaaDoor
