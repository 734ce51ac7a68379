/- Distances of a bank: what the program's and the reference's functions return. -/
import Derived.Test.YtggjheapjklhgaaDoorGapW
import Derived.Test.YtggjheapjklhgaaDoorIntS
namespace Go.Proofs.YtggjheapjklhgaaDoor
open Go.RowKit

theorem kind5 (a : Int) : a = 1 ∨ a = 2 ∨ a = 3 ∨ a = 4 ∨ a = 5 ∨ ((a == 1) = false ∧ (a == 2) = false ∧ (a == 3) = false ∧ (a == 4) = false ∧ (a == 5) = false) := by
  simp only [beq_eq_false_iff_ne, ne_eq]
  omega
set_option maxHeartbeats 4000000 in
set_option maxRecDepth 100000 in
theorem specBankGap_yes (T : Tim) (a b : Int) (w : World) (h : timOk T = true) :
    Calls Tryd.prog 69 #[.agg #[.int .i64 T.t0, .int .i64 T.t1, .int .i64 T.t2, .int .i64 T.t3, .int .i64 T.t4, .int .i64 T.t5, .int .i64 T.t6, .int .i64 T.t7, .int .i64 T.t8, .int .i64 T.t9, .int .i64 T.t10, .int .i64 T.t11, .int .i64 T.t12, .int .i64 T.t13, .int .i64 T.t14, .int .i64 T.t15, .int .i64 T.t16], .int .i64 a, .int .i64 b] w fun e w' => e = .returned (.int .i64 (bankG T a b)) ∧ Below w.heap.size w w' := by
  obtain ⟨_, ⟨b10, b11⟩, ⟨b20, b21⟩, _, _, _, _, _, ⟨b80, b81⟩, ⟨b90, b91⟩, _⟩ := timOk_bd h
  have e1 : IntKind.i64.wrap (T.t2 + T.t1) = T.t2 + T.t1 := IntWalk.i64_in _ (by omega)
  have e2 : IntKind.i64.wrap (T.t8 + T.t1) = T.t8 + T.t1 := IntWalk.i64_in _ (by omega)
  have e3 : IntKind.i64.wrap (T.t9 + T.t1) = T.t9 + T.t1 := IntWalk.i64_in _ (by omega)
  obtain ⟨v, hv⟩ : ∃ v, bankG T a b = v := ⟨_, rfl⟩
  rw [hv]
  have HX0 := hid (BoxT.new_ w 34 T rfl)
  go_enter Tryd.func69, Tryd.ntmps69
  go_wp2_with (refine wpList_load_tim HX0.out rfl _ (by rfl) (by rfl) ?_)
  refine (specTimingOk_any T _).mono ?_
  rintro e w1 ⟨rfl, B⟩
  rw [h]
  have X := HX0.out.old B
  have HB := hid (below_step (below_alloc _ _) B (Nat.le_refl _))
  have x0 := X.cs 0 _ rfl
  have x1 := X.cs 1 _ rfl
  have x2 := X.cs 2 _ rfl
  have x8 := X.cs 8 _ rfl
  have x9 := X.cs 9 _ rfl
  have x13 := X.cs 13 _ rfl
  clear B h X
  rcases kind5 a with rfl | rfl | rfl | rfl | rfl | ⟨a1, a2, a3, a4, a5⟩
  all_goals rcases kind5 b with rfl | rfl | rfl | rfl | rfl | ⟨c1, c2, c3, c4, c5⟩
  all_goals
    simp [bankG, *] at hv
    have HV := hid hv
    clear hv
    go_wp2_with fail
    go_ret
    exact ⟨ret_int HV.out, HB.out⟩
theorem specBankGap_any (T : Tim) (a b : Int) (w : World) :
    Calls Tryd.prog 69 #[.agg #[.int .i64 T.t0, .int .i64 T.t1, .int .i64 T.t2, .int .i64 T.t3, .int .i64 T.t4, .int .i64 T.t5, .int .i64 T.t6, .int .i64 T.t7, .int .i64 T.t8, .int .i64 T.t9, .int .i64 T.t10, .int .i64 T.t11, .int .i64 T.t12, .int .i64 T.t13, .int .i64 T.t14, .int .i64 T.t15, .int .i64 T.t16], .int .i64 a, .int .i64 b] w fun e w' => e = .returned (.int .i64 (bankGap T a b)) ∧ Below w.heap.size w w' := by
  cases h : timOk T with
  | false =>
    have HV := hid (show bankGap T a b = 0 by simp [bankGap, h])
    have HX0 := hid (BoxT.new_ w 34 T rfl)
    go_enter Tryd.func69, Tryd.ntmps69
    go_wp2_with (refine wpList_load_tim HX0.out rfl _ (by rfl) (by rfl) ?_)
    refine (specTimingOk_any T _).mono ?_
    rintro e w1 ⟨rfl, B⟩
    rw [h]
    go_wp2_with fail
    go_ret
    exact ⟨by rw [HV.out]; rfl, below_step (below_alloc _ _) B (Nat.le_refl _)⟩
  | true =>
    rw [show bankGap T a b = bankG T a b by simp [bankGap, h]]
    exact specBankGap_yes T a b w h
end Go.Proofs.YtggjheapjklhgaaDoor
