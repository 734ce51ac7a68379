/- Distances of a rank: what the program's functions return. -/
import Derived.Test.YtggjheapjklhgaaGapB
namespace Go.Proofs.Ytggjheapjklhgaa
open Go.RowKit

theorem kind9 (a : Int) : a = 1 ∨ a = 2 ∨ a = 3 ∨ a = 4 ∨ a = 5 ∨ a = 6 ∨ a = 7 ∨ a = 8 ∨ a = 9 ∨ ((a == 1) = false ∧ (a == 2) = false ∧ (a == 3) = false ∧ (a == 4) = false ∧ (a == 5) = false ∧ (a == 6) = false ∧ (a == 7) = false ∧ (a == 8) = false ∧ (a == 9) = false) := by
  simp only [beq_eq_false_iff_ne, ne_eq]
  omega
set_option maxHeartbeats 4000000 in
set_option maxRecDepth 100000 in
theorem implRankG_1 (T : Tim) (b : Int) (near : Bool) (w : World) (h : timOk T = true) :
    Calls Try.prog 119 #[.agg #[.int .i64 T.t0, .int .i64 T.t1, .int .i64 T.t2, .int .i64 T.t3, .int .i64 T.t4, .int .i64 T.t5, .int .i64 T.t6, .int .i64 T.t7, .int .i64 T.t8, .int .i64 T.t9, .int .i64 T.t10, .int .i64 T.t11, .int .i64 T.t12, .int .i64 T.t13, .int .i64 T.t14, .int .i64 T.t15, .int .i64 T.t16], .int .i64 1, .int .i64 b, .bool near] w fun e w' => e = .returned (.int .i64 (rankG T 1 b near)) ∧ Below w.heap.size w w' := by
  have HH := hid h
  obtain ⟨v, hv⟩ : ∃ v, rankG T 1 b near = v := ⟨_, rfl⟩
  rw [hv]
  have HX0 := hid ((BoxT.new_ w 27 T rfl).old (below_alloc _ (.cells #[.bool near] 4)))
  clear h
  rcases (show b = 1 ∨ b = 8 ∨ ((b == 1) = false ∧ (b == 8) = false) by simp only [beq_eq_false_iff_ne, ne_eq]; omega) with rfl | rfl | ⟨c0, c1⟩
  · cases near
    all_goals
      simp [rankG, *] at hv
      have HV := hid hv
      clear hv
      go_enter Try.func119, Try.ntmps119
      go_wp2
      go_ret
      exact ⟨ret_int HV.out, below_alloc2 _ _ _⟩
  · simp [rankG, *] at hv
    have HV := hid hv
    clear hv
    go_enter Try.func119, Try.ntmps119
    go_wp2_with (first | (refine wpList_load_tim HX0.out rfl _ (by rfl) (by rfl) ?_) | (go_at_call 118; refine (implBankG_any T _ _ _ HH.out).mono ?_; rintro e w2 ⟨rfl, B2⟩))
    go_ret
    exact ⟨ret_int HV.out, below_step (below_alloc2 _ _ _) B2 (Nat.le_refl _)⟩
  · simp [rankG, *] at hv
    have HV := hid hv
    clear hv
    go_enter Try.func119, Try.ntmps119
    go_wp2
    go_ret
    exact ⟨ret_int HV.out, below_alloc2 _ _ _⟩
set_option maxHeartbeats 4000000 in
set_option maxRecDepth 100000 in
theorem implRankG_2 (T : Tim) (b : Int) (near : Bool) (w : World) (h : timOk T = true) :
    Calls Try.prog 119 #[.agg #[.int .i64 T.t0, .int .i64 T.t1, .int .i64 T.t2, .int .i64 T.t3, .int .i64 T.t4, .int .i64 T.t5, .int .i64 T.t6, .int .i64 T.t7, .int .i64 T.t8, .int .i64 T.t9, .int .i64 T.t10, .int .i64 T.t11, .int .i64 T.t12, .int .i64 T.t13, .int .i64 T.t14, .int .i64 T.t15, .int .i64 T.t16], .int .i64 2, .int .i64 b, .bool near] w fun e w' => e = .returned (.int .i64 (rankG T 2 b near)) ∧ Below w.heap.size w w' := by
  have HH := hid h
  obtain ⟨v, hv⟩ : ∃ v, rankG T 2 b near = v := ⟨_, rfl⟩
  rw [hv]
  have HX0 := hid ((BoxT.new_ w 27 T rfl).old (below_alloc _ (.cells #[.bool near] 4)))
  clear h
  rcases (show b = 2 ∨ b = 3 ∨ b = 6 ∨ b = 8 ∨ ((b == 2) = false ∧ (b == 3) = false ∧ (b == 6) = false ∧ (b == 8) = false) by simp only [beq_eq_false_iff_ne, ne_eq]; omega) with rfl | rfl | rfl | rfl | ⟨c0, c1, c2, c3⟩
  · cases near
    all_goals
      simp [rankG, *] at hv
      have HV := hid hv
      clear hv
      go_enter Try.func119, Try.ntmps119
      go_wp2
      go_ret
      exact ⟨ret_int HV.out, below_alloc2 _ _ _⟩
  · simp [rankG, *] at hv
    have HV := hid hv
    clear hv
    go_enter Try.func119, Try.ntmps119
    go_wp2
    go_ret
    exact ⟨ret_int HV.out, below_alloc2 _ _ _⟩
  · simp [rankG, *] at hv
    have HV := hid hv
    clear hv
    go_enter Try.func119, Try.ntmps119
    go_wp2
    go_ret
    exact ⟨ret_int HV.out, below_alloc2 _ _ _⟩
  · simp [rankG, *] at hv
    have HV := hid hv
    clear hv
    go_enter Try.func119, Try.ntmps119
    go_wp2_with (first | (refine wpList_load_tim HX0.out rfl _ (by rfl) (by rfl) ?_) | (go_at_call 118; refine (implBankG_any T _ _ _ HH.out).mono ?_; rintro e w2 ⟨rfl, B2⟩))
    go_ret
    exact ⟨ret_int HV.out, below_step (below_alloc2 _ _ _) B2 (Nat.le_refl _)⟩
  · simp [rankG, *] at hv
    have HV := hid hv
    clear hv
    go_enter Try.func119, Try.ntmps119
    go_wp2
    go_ret
    exact ⟨ret_int HV.out, below_alloc2 _ _ _⟩
set_option maxHeartbeats 4000000 in
set_option maxRecDepth 100000 in
theorem implRankG_3 (T : Tim) (b : Int) (near : Bool) (w : World) (h : timOk T = true) :
    Calls Try.prog 119 #[.agg #[.int .i64 T.t0, .int .i64 T.t1, .int .i64 T.t2, .int .i64 T.t3, .int .i64 T.t4, .int .i64 T.t5, .int .i64 T.t6, .int .i64 T.t7, .int .i64 T.t8, .int .i64 T.t9, .int .i64 T.t10, .int .i64 T.t11, .int .i64 T.t12, .int .i64 T.t13, .int .i64 T.t14, .int .i64 T.t15, .int .i64 T.t16], .int .i64 3, .int .i64 b, .bool near] w fun e w' => e = .returned (.int .i64 (rankG T 3 b near)) ∧ Below w.heap.size w w' := by
  have HH := hid h
  obtain ⟨v, hv⟩ : ∃ v, rankG T 3 b near = v := ⟨_, rfl⟩
  rw [hv]
  have HX0 := hid ((BoxT.new_ w 27 T rfl).old (below_alloc _ (.cells #[.bool near] 4)))
  clear h
  rcases (show b = 3 ∨ b = 2 ∨ b = 6 ∨ b = 8 ∨ ((b == 3) = false ∧ (b == 2) = false ∧ (b == 6) = false ∧ (b == 8) = false) by simp only [beq_eq_false_iff_ne, ne_eq]; omega) with rfl | rfl | rfl | rfl | ⟨c0, c1, c2, c3⟩
  · cases near
    all_goals
      simp [rankG, *] at hv
      have HV := hid hv
      clear hv
      go_enter Try.func119, Try.ntmps119
      go_wp2
      go_ret
      exact ⟨ret_int HV.out, below_alloc2 _ _ _⟩
  · cases near
    all_goals
      simp [rankG, *] at hv
      have HV := hid hv
      clear hv
      go_enter Try.func119, Try.ntmps119
      go_wp2
      go_ret
      exact ⟨ret_int HV.out, below_alloc2 _ _ _⟩
  · simp [rankG, *] at hv
    have HV := hid hv
    clear hv
    go_enter Try.func119, Try.ntmps119
    go_wp2
    go_ret
    exact ⟨ret_int HV.out, below_alloc2 _ _ _⟩
  · simp [rankG, *] at hv
    have HV := hid hv
    clear hv
    go_enter Try.func119, Try.ntmps119
    go_wp2_with (first | (refine wpList_load_tim HX0.out rfl _ (by rfl) (by rfl) ?_) | (go_at_call 118; refine (implBankG_any T _ _ _ HH.out).mono ?_; rintro e w2 ⟨rfl, B2⟩))
    go_ret
    exact ⟨ret_int HV.out, below_step (below_alloc2 _ _ _) B2 (Nat.le_refl _)⟩
  · simp [rankG, *] at hv
    have HV := hid hv
    clear hv
    go_enter Try.func119, Try.ntmps119
    go_wp2
    go_ret
    exact ⟨ret_int HV.out, below_alloc2 _ _ _⟩
set_option maxHeartbeats 4000000 in
set_option maxRecDepth 100000 in
theorem implRankG_4 (T : Tim) (b : Int) (near : Bool) (w : World) (h : timOk T = true) :
    Calls Try.prog 119 #[.agg #[.int .i64 T.t0, .int .i64 T.t1, .int .i64 T.t2, .int .i64 T.t3, .int .i64 T.t4, .int .i64 T.t5, .int .i64 T.t6, .int .i64 T.t7, .int .i64 T.t8, .int .i64 T.t9, .int .i64 T.t10, .int .i64 T.t11, .int .i64 T.t12, .int .i64 T.t13, .int .i64 T.t14, .int .i64 T.t15, .int .i64 T.t16], .int .i64 4, .int .i64 b, .bool near] w fun e w' => e = .returned (.int .i64 (rankG T 4 b near)) ∧ Below w.heap.size w w' := by
  have HH := hid h
  obtain ⟨v, hv⟩ : ∃ v, rankG T 4 b near = v := ⟨_, rfl⟩
  rw [hv]
  have HX0 := hid ((BoxT.new_ w 27 T rfl).old (below_alloc _ (.cells #[.bool near] 4)))
  clear h
  rcases (show b = 8 ∨ ((b == 8) = false) by simp only [beq_eq_false_iff_ne, ne_eq]; omega) with rfl | ⟨c0⟩
  · simp [rankG, *] at hv
    have HV := hid hv
    clear hv
    go_enter Try.func119, Try.ntmps119
    go_wp2_with (first | (refine wpList_load_tim HX0.out rfl _ (by rfl) (by rfl) ?_) | (go_at_call 118; refine (implBankG_any T _ _ _ HH.out).mono ?_; rintro e w2 ⟨rfl, B2⟩))
    go_ret
    exact ⟨ret_int HV.out, below_step (below_alloc2 _ _ _) B2 (Nat.le_refl _)⟩
  · simp [rankG, *] at hv
    have HV := hid hv
    clear hv
    go_enter Try.func119, Try.ntmps119
    go_wp2
    go_ret
    exact ⟨ret_int HV.out, below_alloc2 _ _ _⟩
set_option maxHeartbeats 4000000 in
set_option maxRecDepth 100000 in
theorem implRankG_5 (T : Tim) (b : Int) (near : Bool) (w : World) (h : timOk T = true) :
    Calls Try.prog 119 #[.agg #[.int .i64 T.t0, .int .i64 T.t1, .int .i64 T.t2, .int .i64 T.t3, .int .i64 T.t4, .int .i64 T.t5, .int .i64 T.t6, .int .i64 T.t7, .int .i64 T.t8, .int .i64 T.t9, .int .i64 T.t10, .int .i64 T.t11, .int .i64 T.t12, .int .i64 T.t13, .int .i64 T.t14, .int .i64 T.t15, .int .i64 T.t16], .int .i64 5, .int .i64 b, .bool near] w fun e w' => e = .returned (.int .i64 (rankG T 5 b near)) ∧ Below w.heap.size w w' := by
  have HH := hid h
  obtain ⟨v, hv⟩ : ∃ v, rankG T 5 b near = v := ⟨_, rfl⟩
  rw [hv]
  have HX0 := hid ((BoxT.new_ w 27 T rfl).old (below_alloc _ (.cells #[.bool near] 4)))
  clear h
  rcases (show b = 5 ∨ b = 8 ∨ ((b == 5) = false ∧ (b == 8) = false) by simp only [beq_eq_false_iff_ne, ne_eq]; omega) with rfl | rfl | ⟨c0, c1⟩
  · simp [rankG, *] at hv
    have HV := hid hv
    clear hv
    go_enter Try.func119, Try.ntmps119
    go_wp2
    go_ret
    exact ⟨ret_int HV.out, below_alloc2 _ _ _⟩
  · simp [rankG, *] at hv
    have HV := hid hv
    clear hv
    go_enter Try.func119, Try.ntmps119
    go_wp2_with (first | (refine wpList_load_tim HX0.out rfl _ (by rfl) (by rfl) ?_) | (go_at_call 118; refine (implBankG_any T _ _ _ HH.out).mono ?_; rintro e w2 ⟨rfl, B2⟩))
    go_ret
    exact ⟨ret_int HV.out, below_step (below_alloc2 _ _ _) B2 (Nat.le_refl _)⟩
  · simp [rankG, *] at hv
    have HV := hid hv
    clear hv
    go_enter Try.func119, Try.ntmps119
    go_wp2
    go_ret
    exact ⟨ret_int HV.out, below_alloc2 _ _ _⟩
set_option maxHeartbeats 4000000 in
set_option maxRecDepth 100000 in
theorem implRankG_6 (T : Tim) (b : Int) (near : Bool) (w : World) (h : timOk T = true) :
    Calls Try.prog 119 #[.agg #[.int .i64 T.t0, .int .i64 T.t1, .int .i64 T.t2, .int .i64 T.t3, .int .i64 T.t4, .int .i64 T.t5, .int .i64 T.t6, .int .i64 T.t7, .int .i64 T.t8, .int .i64 T.t9, .int .i64 T.t10, .int .i64 T.t11, .int .i64 T.t12, .int .i64 T.t13, .int .i64 T.t14, .int .i64 T.t15, .int .i64 T.t16], .int .i64 6, .int .i64 b, .bool near] w fun e w' => e = .returned (.int .i64 (rankG T 6 b near)) ∧ Below w.heap.size w w' := by
  have HH := hid h
  obtain ⟨v, hv⟩ : ∃ v, rankG T 6 b near = v := ⟨_, rfl⟩
  rw [hv]
  have HX0 := hid ((BoxT.new_ w 27 T rfl).old (below_alloc _ (.cells #[.bool near] 4)))
  clear h
  rcases (show b = 8 ∨ b = 7 ∨ ((b == 8) = false ∧ (b == 7) = false) by simp only [beq_eq_false_iff_ne, ne_eq]; omega) with rfl | rfl | ⟨c0, c1⟩
  · simp [rankG, *] at hv
    have HV := hid hv
    clear hv
    go_enter Try.func119, Try.ntmps119
    go_wp2_with (first | (refine wpList_load_tim HX0.out rfl _ (by rfl) (by rfl) ?_) | (go_at_call 118; refine (implBankG_any T _ _ _ HH.out).mono ?_; rintro e w2 ⟨rfl, B2⟩))
    go_ret
    exact ⟨ret_int HV.out, below_step (below_alloc2 _ _ _) B2 (Nat.le_refl _)⟩
  · simp [rankG, *] at hv
    have HV := hid hv
    clear hv
    go_enter Try.func119, Try.ntmps119
    go_wp2
    go_ret
    exact ⟨ret_int HV.out, below_alloc2 _ _ _⟩
  · simp [rankG, *] at hv
    have HV := hid hv
    clear hv
    go_enter Try.func119, Try.ntmps119
    go_wp2
    go_ret
    exact ⟨ret_int HV.out, below_alloc2 _ _ _⟩
set_option maxHeartbeats 4000000 in
set_option maxRecDepth 100000 in
theorem implRankG_7 (T : Tim) (b : Int) (near : Bool) (w : World) (h : timOk T = true) :
    Calls Try.prog 119 #[.agg #[.int .i64 T.t0, .int .i64 T.t1, .int .i64 T.t2, .int .i64 T.t3, .int .i64 T.t4, .int .i64 T.t5, .int .i64 T.t6, .int .i64 T.t7, .int .i64 T.t8, .int .i64 T.t9, .int .i64 T.t10, .int .i64 T.t11, .int .i64 T.t12, .int .i64 T.t13, .int .i64 T.t14, .int .i64 T.t15, .int .i64 T.t16], .int .i64 7, .int .i64 b, .bool near] w fun e w' => e = .returned (.int .i64 (rankG T 7 b near)) ∧ Below w.heap.size w w' := by
  have HH := hid h
  obtain ⟨v, hv⟩ : ∃ v, rankG T 7 b near = v := ⟨_, rfl⟩
  rw [hv]
  have HX0 := hid ((BoxT.new_ w 27 T rfl).old (below_alloc _ (.cells #[.bool near] 4)))
  clear h
  simp [rankG, *] at hv
  have HV := hid hv
  clear hv
  go_enter Try.func119, Try.ntmps119
  go_wp2
  go_ret
  exact ⟨ret_int HV.out, below_alloc2 _ _ _⟩
set_option maxHeartbeats 4000000 in
set_option maxRecDepth 100000 in
theorem implRankG_8 (T : Tim) (b : Int) (near : Bool) (w : World) (h : timOk T = true) :
    Calls Try.prog 119 #[.agg #[.int .i64 T.t0, .int .i64 T.t1, .int .i64 T.t2, .int .i64 T.t3, .int .i64 T.t4, .int .i64 T.t5, .int .i64 T.t6, .int .i64 T.t7, .int .i64 T.t8, .int .i64 T.t9, .int .i64 T.t10, .int .i64 T.t11, .int .i64 T.t12, .int .i64 T.t13, .int .i64 T.t14, .int .i64 T.t15, .int .i64 T.t16], .int .i64 8, .int .i64 b, .bool near] w fun e w' => e = .returned (.int .i64 (rankG T 8 b near)) ∧ Below w.heap.size w w' := by
  have HH := hid h
  obtain ⟨v, hv⟩ : ∃ v, rankG T 8 b near = v := ⟨_, rfl⟩
  rw [hv]
  have HX0 := hid ((BoxT.new_ w 27 T rfl).old (below_alloc _ (.cells #[.bool near] 4)))
  clear h
  rcases (show b = 8 ∨ b = 9 ∨ ((b == 8) = false ∧ (b == 9) = false) by simp only [beq_eq_false_iff_ne, ne_eq]; omega) with rfl | rfl | ⟨c0, c1⟩
  · simp [rankG, *] at hv
    have HV := hid hv
    clear hv
    go_enter Try.func119, Try.ntmps119
    go_wp2_with (first | (refine wpList_load_tim HX0.out rfl _ (by rfl) (by rfl) ?_) | (go_at_call 118; refine (implBankG_any T _ _ _ HH.out).mono ?_; rintro e w2 ⟨rfl, B2⟩))
    go_ret
    exact ⟨ret_int HV.out, below_step (below_alloc2 _ _ _) B2 (Nat.le_refl _)⟩
  · simp [rankG, *] at hv
    have HV := hid hv
    clear hv
    go_enter Try.func119, Try.ntmps119
    go_wp2
    go_ret
    exact ⟨ret_int HV.out, below_alloc2 _ _ _⟩
  · simp [rankG, *] at hv
    have HV := hid hv
    clear hv
    go_enter Try.func119, Try.ntmps119
    go_wp2
    go_ret
    exact ⟨ret_int HV.out, below_alloc2 _ _ _⟩
set_option maxHeartbeats 4000000 in
set_option maxRecDepth 100000 in
theorem implRankG_9 (T : Tim) (b : Int) (near : Bool) (w : World) (h : timOk T = true) :
    Calls Try.prog 119 #[.agg #[.int .i64 T.t0, .int .i64 T.t1, .int .i64 T.t2, .int .i64 T.t3, .int .i64 T.t4, .int .i64 T.t5, .int .i64 T.t6, .int .i64 T.t7, .int .i64 T.t8, .int .i64 T.t9, .int .i64 T.t10, .int .i64 T.t11, .int .i64 T.t12, .int .i64 T.t13, .int .i64 T.t14, .int .i64 T.t15, .int .i64 T.t16], .int .i64 9, .int .i64 b, .bool near] w fun e w' => e = .returned (.int .i64 (rankG T 9 b near)) ∧ Below w.heap.size w w' := by
  have HH := hid h
  obtain ⟨v, hv⟩ : ∃ v, rankG T 9 b near = v := ⟨_, rfl⟩
  rw [hv]
  have HX0 := hid ((BoxT.new_ w 27 T rfl).old (below_alloc _ (.cells #[.bool near] 4)))
  clear h
  simp [rankG, *] at hv
  have HV := hid hv
  clear hv
  go_enter Try.func119, Try.ntmps119
  go_wp2
  go_ret
  exact ⟨ret_int HV.out, below_alloc2 _ _ _⟩
set_option maxHeartbeats 4000000 in
set_option maxRecDepth 100000 in
theorem implRankG_0 (T : Tim) (a : Int) (a1 : (a == 1) = false) (a2 : (a == 2) = false) (a3 : (a == 3) = false) (_a4 : (a == 4) = false) (a5 : (a == 5) = false) (a6 : (a == 6) = false) (a7 : (a == 7) = false) (a8 : (a == 8) = false) (a9 : (a == 9) = false) (b : Int) (near : Bool) (w : World) (h : timOk T = true) :
    Calls Try.prog 119 #[.agg #[.int .i64 T.t0, .int .i64 T.t1, .int .i64 T.t2, .int .i64 T.t3, .int .i64 T.t4, .int .i64 T.t5, .int .i64 T.t6, .int .i64 T.t7, .int .i64 T.t8, .int .i64 T.t9, .int .i64 T.t10, .int .i64 T.t11, .int .i64 T.t12, .int .i64 T.t13, .int .i64 T.t14, .int .i64 T.t15, .int .i64 T.t16], .int .i64 a, .int .i64 b, .bool near] w fun e w' => e = .returned (.int .i64 (rankG T a b near)) ∧ Below w.heap.size w w' := by
  have HH := hid h
  obtain ⟨v, hv⟩ : ∃ v, rankG T a b near = v := ⟨_, rfl⟩
  rw [hv]
  have HX0 := hid ((BoxT.new_ w 27 T rfl).old (below_alloc _ (.cells #[.bool near] 4)))
  clear h
  rcases (show b = 8 ∨ ((b == 8) = false) by simp only [beq_eq_false_iff_ne, ne_eq]; omega) with rfl | ⟨c0⟩
  · simp [rankG, *] at hv
    have HV := hid hv
    clear hv
    go_enter Try.func119, Try.ntmps119
    go_wp2_with (first | (refine wpList_load_tim HX0.out rfl _ (by rfl) (by rfl) ?_) | (go_at_call 118; refine (implBankG_any T _ _ _ HH.out).mono ?_; rintro e w2 ⟨rfl, B2⟩))
    go_ret
    exact ⟨ret_int HV.out, below_step (below_alloc2 _ _ _) B2 (Nat.le_refl _)⟩
  · simp [rankG, *] at hv
    have HV := hid hv
    clear hv
    go_enter Try.func119, Try.ntmps119
    go_wp2
    go_ret
    exact ⟨ret_int HV.out, below_alloc2 _ _ _⟩
theorem implRankG_any (T : Tim) (a b : Int) (near : Bool) (w : World) (h : timOk T = true) :
    Calls Try.prog 119 #[.agg #[.int .i64 T.t0, .int .i64 T.t1, .int .i64 T.t2, .int .i64 T.t3, .int .i64 T.t4, .int .i64 T.t5, .int .i64 T.t6, .int .i64 T.t7, .int .i64 T.t8, .int .i64 T.t9, .int .i64 T.t10, .int .i64 T.t11, .int .i64 T.t12, .int .i64 T.t13, .int .i64 T.t14, .int .i64 T.t15, .int .i64 T.t16], .int .i64 a, .int .i64 b, .bool near] w fun e w' => e = .returned (.int .i64 (rankG T a b near)) ∧ Below w.heap.size w w' := by
  rcases kind9 a with rfl | rfl | rfl | rfl | rfl | rfl | rfl | rfl | rfl | ⟨a1, a2, a3, a4, a5, a6, a7, a8, a9⟩
  · exact implRankG_1 T b near w h
  · exact implRankG_2 T b near w h
  · exact implRankG_3 T b near w h
  · exact implRankG_4 T b near w h
  · exact implRankG_5 T b near w h
  · exact implRankG_6 T b near w h
  · exact implRankG_7 T b near w h
  · exact implRankG_8 T b near w h
  · exact implRankG_9 T b near w h
  · exact implRankG_0 T a a1 a2 a3 a4 a5 a6 a7 a8 a9 b near w h
set_option maxHeartbeats 1000000 in
set_option maxRecDepth 100000 in
theorem implRankGap_any (T : Tim) (a b : Int) (near : Bool) (w : World) :
    Calls Try.prog 67 #[.agg #[.int .i64 T.t0, .int .i64 T.t1, .int .i64 T.t2, .int .i64 T.t3, .int .i64 T.t4, .int .i64 T.t5, .int .i64 T.t6, .int .i64 T.t7, .int .i64 T.t8, .int .i64 T.t9, .int .i64 T.t10, .int .i64 T.t11, .int .i64 T.t12, .int .i64 T.t13, .int .i64 T.t14, .int .i64 T.t15, .int .i64 T.t16], .int .i64 a, .int .i64 b, .bool near] w fun e w' => e = .returned (.int .i64 (rankGap T a b near)) ∧ Below w.heap.size w w' := by
  have HX0 := hid (BoxT.new_ w 27 T rfl)
  cases h : timOk T with
  | false =>
    have HV := hid (show rankGap T a b near = 0 by simp [rankGap, h])
    go_enter Try.func67, Try.ntmps67
    go_wp2_with (refine wpList_load_tim HX0.out rfl _ (by rfl) (by rfl) ?_)
    refine (implTimingOk_any T _).mono ?_
    rintro e w1 ⟨rfl, B⟩
    rw [h]
    go_wp2_with fail
    go_ret
    exact ⟨by rw [HV.out]; rfl, below_step (below_alloc _ _) B (Nat.le_refl _)⟩
  | true =>
    cases hb : inB b 1 9 with
    | false =>
      have HV := hid (show rankGap T a b near = 0 by simp [rankGap, hb])
      go_enter Try.func67, Try.ntmps67
      go_wp2_with (refine wpList_load_tim HX0.out rfl _ (by rfl) (by rfl) ?_)
      refine (implTimingOk_any T _).mono ?_
      rintro e w1 ⟨rfl, B⟩
      rw [h]
      go_wp2_with (go_at_call 81; with_reducible refine (between_of hb).mono ?_; rintro e w' ⟨rfl, rfl⟩)
      go_ret
      exact ⟨by rw [HV.out]; rfl, below_step (below_alloc _ _) B (Nat.le_refl _)⟩
    | true =>
      have HV := hid (show rankGap T a b near = rankG T a b near by simp [rankGap, h, hb])
      have HH := hid h
      go_enter Try.func67, Try.ntmps67
      go_wp2_with (refine wpList_load_tim HX0.out rfl _ (by rfl) (by rfl) ?_)
      refine (implTimingOk_any T _).mono ?_
      rintro e w1 ⟨rfl, B⟩
      rw [h]
      have HX := hid (HX0.out.old B)
      have HB := hid (below_step (below_alloc _ _) B (Nat.le_refl _))
      clear B h HX0
      go_wp2_with (first | (refine wpList_load_tim HX.out rfl _ (by rfl) (by rfl) ?_) | (go_at_call 81; with_reducible refine (between_of hb).mono ?_; rintro e w' ⟨rfl, rfl⟩) | (go_at_call 119; refine (implRankG_any T _ _ _ _ HH.out).mono ?_; rintro e w2 ⟨rfl, B2⟩))
      go_ret
      exact ⟨by rw [HV.out]; rfl, below_step HB.out B2 (Nat.le_refl _)⟩
end Go.Proofs.Ytggjheapjklhgaa
