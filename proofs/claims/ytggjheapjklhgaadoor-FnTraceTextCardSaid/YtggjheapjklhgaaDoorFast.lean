/- FastTiming: what the program's and the reference's return. -/
import Derived.Test.YtggjheapjklhgaaDoorTimT
namespace Go.Proofs.YtggjheapjklhgaaDoor
open Go.RowKit
def fastT : Tim := ⟨3, 3, 7, 2, 3, 10, 2, 3, 3, 6, 4, 5, 4, 12, 3, 4, 16⟩
theorem there_one (w : World) (cs : List Value) (t : TypeId) (b : Nat) (hb : b = w.heap.size) (n : Nat) (hn : n = cs.length) : (w.alloc (.cells cs.toArray t)).there b 0 n := by
  subst hb hn
  intro j hj
  rw [Nat.zero_add]
  rw [box_at w cs t j]
  exact ⟨by simp [hj], frozen_of_row _ w.heap.size j cs.toArray t (heap_alloc_new w _)⟩
set_option maxHeartbeats 8000000 in
set_option maxRecDepth 100000 in
theorem specFastTiming_any (w : World) :
    Calls Tryd.prog 41 #[] w fun e w' => e = .returned (.agg #[.int .i64 fastT.t0, .int .i64 fastT.t1, .int .i64 fastT.t2, .int .i64 fastT.t3, .int .i64 fastT.t4, .int .i64 fastT.t5, .int .i64 fastT.t6, .int .i64 fastT.t7, .int .i64 fastT.t8, .int .i64 fastT.t9, .int .i64 fastT.t10, .int .i64 fastT.t11, .int .i64 fastT.t12, .int .i64 fastT.t13, .int .i64 fastT.t14, .int .i64 fastT.t15, .int .i64 fastT.t16]) ∧ Below w.heap.size w w' := by
  have HT := hid (there_one w [.int .i64 0, .int .i64 0, .int .i64 0, .int .i64 0, .int .i64 0, .int .i64 0, .int .i64 0, .int .i64 0, .int .i64 0, .int .i64 0, .int .i64 0, .int .i64 0, .int .i64 0, .int .i64 0, .int .i64 0, .int .i64 0, .int .i64 0] 34 w.heap.size rfl 17 rfl)
  have HB := hid (below_alloc w (.cells #[.int .i64 0, .int .i64 0, .int .i64 0, .int .i64 0, .int .i64 0, .int .i64 0, .int .i64 0, .int .i64 0, .int .i64 0, .int .i64 0, .int .i64 0, .int .i64 0, .int .i64 0, .int .i64 0, .int .i64 0, .int .i64 0, .int .i64 0] 34))
  go_enter Tryd.func41, Tryd.ntmps41
  go_wp2_with (refine wpList_store_tim (T := fastT) HT.out (by rfl) _ _ (by rfl) (by rfl) (by rfl) ?_)
  generalize hW : (w.alloc (.cells #[.int .i64 0, .int .i64 0, .int .i64 0, .int .i64 0, .int .i64 0, .int .i64 0, .int .i64 0, .int .i64 0, .int .i64 0, .int .i64 0, .int .i64 0, .int .i64 0, .int .i64 0, .int .i64 0, .int .i64 0, .int .i64 0, .int .i64 0] 34)) = W at *
  have hload := run_loadVar_mid (P := Tryd.prog) (W.setCells w.heap.size 0 (timV fastT)) w.heap.size 0 34 (timV fastT) _ (setCells_range W _ (timV fastT) HT.out) Tryd.underlying34 rfl (by kernel_rfl)
  have HS : Keeps (fun k => k = w.heap.size) W (W.setCells w.heap.size 0 (timV fastT)) := setCells_keeps _ _ _ _
  generalize W.setCells w.heap.size 0 (timV fastT) = W2 at *
  exact bodyPost_ret (v := .agg #[.int .i64 fastT.t0, .int .i64 fastT.t1, .int .i64 fastT.t2, .int .i64 fastT.t3, .int .i64 fastT.t4, .int .i64 fastT.t5, .int .i64 fastT.t6, .int .i64 fastT.t7, .int .i64 fastT.t8, .int .i64 fastT.t9, .int .i64 fastT.t10, .int .i64 fastT.t11, .int .i64 fastT.t12, .int .i64 fastT.t13, .int .i64 fastT.t14, .int .i64 fastT.t15, .int .i64 fastT.t16]) (results_cell (ad := ⟨w.heap.size, 0, none⟩) (by exact Tryd.results41) (by rfl) hload) rfl ⟨rfl, HB.out.trans (HS.below HB.out.size (fun k hk hS => by omega))⟩
end Go.Proofs.YtggjheapjklhgaaDoor
