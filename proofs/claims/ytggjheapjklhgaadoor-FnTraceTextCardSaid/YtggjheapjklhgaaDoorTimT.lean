/- The laws' helper that copies a timing. -/
import Derived.Test.YtggjheapjklhgaaDoorGapW
import Derived.Deep.Cut
namespace Go.Proofs.YtggjheapjklhgaaDoor
open Go.RowKit
/-- A new block of cells may be written, behind another one too. -/
theorem there_new (w : World) (cs : List Value) (t : TypeId) (o : Obj) (b : Nat) (hb : b = w.heap.size) (n : Nat) (hn : n = cs.length) : ((w.alloc (.cells cs.toArray t)).alloc o).there b 0 n := by
  subst hb hn
  intro j hj
  rw [Nat.zero_add]
  have h0 := box_at w cs t j
  rw [World.cell?_alloc_lt _ _ _ (by simp), h0]
  refine ⟨by simp [hj], ?_⟩
  have hh : ((w.alloc (.cells cs.toArray t)).alloc o).heap[w.heap.size]? = some (.cells cs.toArray t (0, 0)) := by
    rw [(below_alloc (w.alloc (.cells cs.toArray t)) o).block w.heap.size (by simp)]
    exact heap_alloc_new w _
  exact frozen_of_row _ w.heap.size j cs.toArray t hh
theorem setCells_keeps (b : Nat) : ∀ (cs : List Value) (o : Nat) (w : World), Keeps (fun k => k = b) w (w.setCells b o cs)
  | [], _, w => Keeps.refl _ w
  | v :: cs, o, w => by
    rw [World.setCells]
    exact (Keeps.set (S := fun k => k = b) (Keeps.refl _ w) ⟨b, o, none⟩ v rfl).trans (setCells_keeps b cs (o + 1) _)
theorem setCells_range (w : World) (b : Nat) (cs : List Value) (h : w.there b 0 cs.length) : (w.setCells b 0 cs).rangeAt b 0 cs := by
  intro j v hv
  obtain ⟨hj, rfl⟩ := List.getElem?_eq_some_iff.1 hv
  exact World.cell?_setCells_in b cs 0 w (fun i hi => (h i hi).1) j hj
theorem results_cell {P : Program} {fn : Func} {tmps : Array Value} {w : World} {a : Nat} {t : TypeId} {ad : Addr} {v : Value} (hr : fn.results = #[.cell a t]) (ht : tmps.getD a undef = .pointer (some ad)) (hl : (loadVar t ad).run P w = .ok v w) : (results fn tmps).run P w = .ok v w := by
  unfold results
  rw [hr]
  have ht' : tmps[a]?.getD undef = .pointer (some ad) := by simpa using ht
  simp [ht', asAddr, hl]
theorem wpList_store_tim {w : World} {g : Nat} {T : Tim} (ht : w.there g 0 17) {ops : Array Oper} {rest : List Oper} {o : Oper} {ac : Act} {Q : Exit → Act → World → Prop} (hgd : o.guard = none) (x y : Operand) (ho : o.op = .store 34 x y)
    (hx : ac.eval x = .pointer (some ⟨g, 0, none⟩)) (hy : ac.eval y = .agg #[.int .i64 T.t0, .int .i64 T.t1, .int .i64 T.t2, .int .i64 T.t3, .int .i64 T.t4, .int .i64 T.t5, .int .i64 T.t6, .int .i64 T.t7, .int .i64 T.t8, .int .i64 T.t9, .int .i64 T.t10, .int .i64 T.t11, .int .i64 T.t12, .int .i64 T.t13, .int .i64 T.t14, .int .i64 T.t15, .int .i64 T.t16]) (hk : wpList Tryd.prog ops Q rest (ac.put o.dst undef) (w.setCells g 0 (timV T))) : wpList Tryd.prog ops Q (o :: rest) ac w :=
  wpList_store_mid hgd 34 x y ho g 0 (timV T).toArray hx hy ht (by kernel_rfl) (by simp [timV, timL, Value.oneCell']) hk
end Go.Proofs.YtggjheapjklhgaaDoor
