/- Distances of a rank: what the reference's functions return. -/
import Derived.Test.YtggjheapjklhgaaDoorGapB
namespace Go.Proofs.YtggjheapjklhgaaDoor
open Go.RowKit

theorem l07Near_any (near : Bool) (a b : Int) (w : World) :
    Calls Tryd.prog 78 #[.bool near, .int .i64 a, .int .i64 b] w fun e w' => e = .returned (.int .i64 (if near = true then a else b)) ∧ w = w' := by
  cases near
  all_goals
    go_enter Tryd.func78, Tryd.ntmps78
    go_wp2
    go_ret
    exact ⟨rfl, rfl⟩
theorem kind9_of {a : Int} (h : inB a 1 9 = true) : a = 1 ∨ a = 2 ∨ a = 3 ∨ a = 4 ∨ a = 5 ∨ a = 6 ∨ a = 7 ∨ a = 8 ∨ a = 9 := by
  have := inB_iff.1 h
  omega
set_option maxHeartbeats 4000000 in
set_option maxRecDepth 100000 in
theorem specRankG_1 (T : Tim) (b : Int) (near : Bool) (w : World) (h : timOk T = true) (hb : inB b 1 9 = true) :
    Calls Tryd.prog 68 #[.agg #[.int .i64 T.t0, .int .i64 T.t1, .int .i64 T.t2, .int .i64 T.t3, .int .i64 T.t4, .int .i64 T.t5, .int .i64 T.t6, .int .i64 T.t7, .int .i64 T.t8, .int .i64 T.t9, .int .i64 T.t10, .int .i64 T.t11, .int .i64 T.t12, .int .i64 T.t13, .int .i64 T.t14, .int .i64 T.t15, .int .i64 T.t16], .int .i64 1, .int .i64 b, .bool near] w fun e w' => e = .returned (.int .i64 (rankG T 1 b near)) ∧ Below w.heap.size w w' := by
  have HH := hid h
  obtain ⟨v, hv⟩ : ∃ v, rankG T 1 b near = v := ⟨_, rfl⟩
  rw [hv]
  have HVV := hid hv
  clear hv
  have ha : inB 1 1 9 = true := by decide
  have HX0 := hid (BoxT.new_ w 34 T rfl)
  go_enter Tryd.func68, Tryd.ntmps68
  go_wp2_with (refine wpList_load_tim HX0.out rfl _ (by rfl) (by rfl) ?_)
  refine (specTimingOk_any T _).mono ?_
  rintro e w1 ⟨rfl, B⟩
  rw [h]
  have HX := hid (HX0.out.old B)
  have HB := hid (below_step (below_alloc _ _) B (Nat.le_refl _))
  clear B h HX0
  have X := HX.out
  have x0 := X.cs 0 _ rfl
  have x1 := X.cs 1 _ rfl
  have x2 := X.cs 2 _ rfl
  have x3 := X.cs 3 _ rfl
  have x4 := X.cs 4 _ rfl
  have x5 := X.cs 5 _ rfl
  have x6 := X.cs 6 _ rfl
  have x7 := X.cs 7 _ rfl
  have x8 := X.cs 8 _ rfl
  have x9 := X.cs 9 _ rfl
  have x10 := X.cs 10 _ rfl
  have x11 := X.cs 11 _ rfl
  have x12 := X.cs 12 _ rfl
  have x13 := X.cs 13 _ rfl
  have x14 := X.cs 14 _ rfl
  have x15 := X.cs 15 _ rfl
  have x16 := X.cs 16 _ rfl
  clear X
  have hv := HVV.out
  clear HVV
  rcases (show b = 1 ∨ b = 6 ∨ b = 8 ∨ ((b == 1) = false ∧ (b == 6) = false ∧ (b == 8) = false ∧ (1 == b) = false ∧ (6 == b) = false ∧ (8 == b) = false) by simp only [beq_eq_false_iff_ne, ne_eq]; omega) with rfl | rfl | rfl | ⟨c0, c1, c2, c3, c4, c5⟩
  · cases near
    all_goals
      simp [rankG, *] at hv
      have HV := hid hv
      clear hv
      go_wp2_with (first | (go_at_call 37; with_reducible refine (l01In_of ha).mono ?_; rintro e w' ⟨rfl, rfl⟩) | (go_at_call 37; with_reducible refine (l01In_of hb).mono ?_; rintro e w' ⟨rfl, rfl⟩) | (go_at_call 78; refine (l07Near_any _ _ _ _).mono ?_; rintro e w2 ⟨rfl, rfl⟩))
      go_ret
      exact ⟨ret_int HV.out, HB.out⟩
  · simp [rankG, *] at hv
    have HV := hid hv
    clear hv
    go_wp2_with (first | (go_at_call 37; with_reducible refine (l01In_of ha).mono ?_; rintro e w' ⟨rfl, rfl⟩) | (go_at_call 37; with_reducible refine (l01In_of hb).mono ?_; rintro e w' ⟨rfl, rfl⟩) | (go_at_call 78; refine (l07Near_any _ _ _ _).mono ?_; rintro e w2 ⟨rfl, rfl⟩))
    go_ret
    exact ⟨ret_int HV.out, HB.out⟩
  · simp [rankG, *] at hv
    have HV := hid hv
    clear hv
    go_wp2_with (first | (refine wpList_load_tim HX.out rfl _ (by rfl) (by rfl) ?_) | (go_at_call 37; with_reducible refine (l01In_of ha).mono ?_; rintro e w' ⟨rfl, rfl⟩) | (go_at_call 37; with_reducible refine (l01In_of hb).mono ?_; rintro e w' ⟨rfl, rfl⟩) | (go_at_call 69; refine (specBankGap_yes T _ _ _ HH.out).mono ?_; rintro e w2 ⟨rfl, B2⟩))
    go_ret
    exact ⟨ret_int HV.out, below_step HB.out B2 (Nat.le_refl _)⟩
  · simp [rankG, *] at hv
    have HV := hid hv
    clear hv
    go_wp2_with (first | (go_at_call 37; with_reducible refine (l01In_of ha).mono ?_; rintro e w' ⟨rfl, rfl⟩) | (go_at_call 37; with_reducible refine (l01In_of hb).mono ?_; rintro e w' ⟨rfl, rfl⟩) | (go_at_call 78; refine (l07Near_any _ _ _ _).mono ?_; rintro e w2 ⟨rfl, rfl⟩))
    go_ret
    exact ⟨ret_int HV.out, HB.out⟩
set_option maxHeartbeats 4000000 in
set_option maxRecDepth 100000 in
theorem specRankG_2 (T : Tim) (b : Int) (near : Bool) (w : World) (h : timOk T = true) (hb : inB b 1 9 = true) :
    Calls Tryd.prog 68 #[.agg #[.int .i64 T.t0, .int .i64 T.t1, .int .i64 T.t2, .int .i64 T.t3, .int .i64 T.t4, .int .i64 T.t5, .int .i64 T.t6, .int .i64 T.t7, .int .i64 T.t8, .int .i64 T.t9, .int .i64 T.t10, .int .i64 T.t11, .int .i64 T.t12, .int .i64 T.t13, .int .i64 T.t14, .int .i64 T.t15, .int .i64 T.t16], .int .i64 2, .int .i64 b, .bool near] w fun e w' => e = .returned (.int .i64 (rankG T 2 b near)) ∧ Below w.heap.size w w' := by
  have HH := hid h
  obtain ⟨v, hv⟩ : ∃ v, rankG T 2 b near = v := ⟨_, rfl⟩
  rw [hv]
  have HVV := hid hv
  clear hv
  have ha : inB 2 1 9 = true := by decide
  have HX0 := hid (BoxT.new_ w 34 T rfl)
  go_enter Tryd.func68, Tryd.ntmps68
  go_wp2_with (refine wpList_load_tim HX0.out rfl _ (by rfl) (by rfl) ?_)
  refine (specTimingOk_any T _).mono ?_
  rintro e w1 ⟨rfl, B⟩
  rw [h]
  have HX := hid (HX0.out.old B)
  have HB := hid (below_step (below_alloc _ _) B (Nat.le_refl _))
  clear B h HX0
  have X := HX.out
  have x0 := X.cs 0 _ rfl
  have x1 := X.cs 1 _ rfl
  have x2 := X.cs 2 _ rfl
  have x3 := X.cs 3 _ rfl
  have x4 := X.cs 4 _ rfl
  have x5 := X.cs 5 _ rfl
  have x6 := X.cs 6 _ rfl
  have x7 := X.cs 7 _ rfl
  have x8 := X.cs 8 _ rfl
  have x9 := X.cs 9 _ rfl
  have x10 := X.cs 10 _ rfl
  have x11 := X.cs 11 _ rfl
  have x12 := X.cs 12 _ rfl
  have x13 := X.cs 13 _ rfl
  have x14 := X.cs 14 _ rfl
  have x15 := X.cs 15 _ rfl
  have x16 := X.cs 16 _ rfl
  clear X
  have hv := HVV.out
  clear HVV
  rcases (show b = 2 ∨ b = 3 ∨ b = 6 ∨ b = 8 ∨ ((b == 2) = false ∧ (b == 3) = false ∧ (b == 6) = false ∧ (b == 8) = false ∧ (2 == b) = false ∧ (3 == b) = false ∧ (6 == b) = false ∧ (8 == b) = false) by simp only [beq_eq_false_iff_ne, ne_eq]; omega) with rfl | rfl | rfl | rfl | ⟨c0, c1, c2, c3, c4, c5, c6, c7⟩
  · cases near
    all_goals
      simp [rankG, *] at hv
      have HV := hid hv
      clear hv
      go_wp2_with (first | (go_at_call 37; with_reducible refine (l01In_of ha).mono ?_; rintro e w' ⟨rfl, rfl⟩) | (go_at_call 37; with_reducible refine (l01In_of hb).mono ?_; rintro e w' ⟨rfl, rfl⟩) | (go_at_call 78; refine (l07Near_any _ _ _ _).mono ?_; rintro e w2 ⟨rfl, rfl⟩))
      go_ret
      exact ⟨ret_int HV.out, HB.out⟩
  · simp [rankG, *] at hv
    have HV := hid hv
    clear hv
    go_wp2_with (first | (go_at_call 37; with_reducible refine (l01In_of ha).mono ?_; rintro e w' ⟨rfl, rfl⟩) | (go_at_call 37; with_reducible refine (l01In_of hb).mono ?_; rintro e w' ⟨rfl, rfl⟩) | (go_at_call 78; refine (l07Near_any _ _ _ _).mono ?_; rintro e w2 ⟨rfl, rfl⟩))
    go_ret
    exact ⟨ret_int HV.out, HB.out⟩
  · simp [rankG, *] at hv
    have HV := hid hv
    clear hv
    go_wp2_with (first | (go_at_call 37; with_reducible refine (l01In_of ha).mono ?_; rintro e w' ⟨rfl, rfl⟩) | (go_at_call 37; with_reducible refine (l01In_of hb).mono ?_; rintro e w' ⟨rfl, rfl⟩) | (go_at_call 78; refine (l07Near_any _ _ _ _).mono ?_; rintro e w2 ⟨rfl, rfl⟩))
    go_ret
    exact ⟨ret_int HV.out, HB.out⟩
  · simp [rankG, *] at hv
    have HV := hid hv
    clear hv
    go_wp2_with (first | (refine wpList_load_tim HX.out rfl _ (by rfl) (by rfl) ?_) | (go_at_call 37; with_reducible refine (l01In_of ha).mono ?_; rintro e w' ⟨rfl, rfl⟩) | (go_at_call 37; with_reducible refine (l01In_of hb).mono ?_; rintro e w' ⟨rfl, rfl⟩) | (go_at_call 69; refine (specBankGap_yes T _ _ _ HH.out).mono ?_; rintro e w2 ⟨rfl, B2⟩))
    go_ret
    exact ⟨ret_int HV.out, below_step HB.out B2 (Nat.le_refl _)⟩
  · simp [rankG, *] at hv
    have HV := hid hv
    clear hv
    go_wp2_with (first | (go_at_call 37; with_reducible refine (l01In_of ha).mono ?_; rintro e w' ⟨rfl, rfl⟩) | (go_at_call 37; with_reducible refine (l01In_of hb).mono ?_; rintro e w' ⟨rfl, rfl⟩) | (go_at_call 78; refine (l07Near_any _ _ _ _).mono ?_; rintro e w2 ⟨rfl, rfl⟩))
    go_ret
    exact ⟨ret_int HV.out, HB.out⟩
set_option maxHeartbeats 4000000 in
set_option maxRecDepth 100000 in
theorem specRankG_3 (T : Tim) (b : Int) (near : Bool) (w : World) (h : timOk T = true) (hb : inB b 1 9 = true) :
    Calls Tryd.prog 68 #[.agg #[.int .i64 T.t0, .int .i64 T.t1, .int .i64 T.t2, .int .i64 T.t3, .int .i64 T.t4, .int .i64 T.t5, .int .i64 T.t6, .int .i64 T.t7, .int .i64 T.t8, .int .i64 T.t9, .int .i64 T.t10, .int .i64 T.t11, .int .i64 T.t12, .int .i64 T.t13, .int .i64 T.t14, .int .i64 T.t15, .int .i64 T.t16], .int .i64 3, .int .i64 b, .bool near] w fun e w' => e = .returned (.int .i64 (rankG T 3 b near)) ∧ Below w.heap.size w w' := by
  have HH := hid h
  obtain ⟨v, hv⟩ : ∃ v, rankG T 3 b near = v := ⟨_, rfl⟩
  rw [hv]
  have HVV := hid hv
  clear hv
  have ha : inB 3 1 9 = true := by decide
  have HX0 := hid (BoxT.new_ w 34 T rfl)
  go_enter Tryd.func68, Tryd.ntmps68
  go_wp2_with (refine wpList_load_tim HX0.out rfl _ (by rfl) (by rfl) ?_)
  refine (specTimingOk_any T _).mono ?_
  rintro e w1 ⟨rfl, B⟩
  rw [h]
  have HX := hid (HX0.out.old B)
  have HB := hid (below_step (below_alloc _ _) B (Nat.le_refl _))
  clear B h HX0
  have X := HX.out
  have x0 := X.cs 0 _ rfl
  have x1 := X.cs 1 _ rfl
  have x2 := X.cs 2 _ rfl
  have x3 := X.cs 3 _ rfl
  have x4 := X.cs 4 _ rfl
  have x5 := X.cs 5 _ rfl
  have x6 := X.cs 6 _ rfl
  have x7 := X.cs 7 _ rfl
  have x8 := X.cs 8 _ rfl
  have x9 := X.cs 9 _ rfl
  have x10 := X.cs 10 _ rfl
  have x11 := X.cs 11 _ rfl
  have x12 := X.cs 12 _ rfl
  have x13 := X.cs 13 _ rfl
  have x14 := X.cs 14 _ rfl
  have x15 := X.cs 15 _ rfl
  have x16 := X.cs 16 _ rfl
  clear X
  have hv := HVV.out
  clear HVV
  rcases (show b = 3 ∨ b = 2 ∨ b = 6 ∨ b = 8 ∨ ((b == 3) = false ∧ (b == 2) = false ∧ (b == 6) = false ∧ (b == 8) = false ∧ (3 == b) = false ∧ (2 == b) = false ∧ (6 == b) = false ∧ (8 == b) = false) by simp only [beq_eq_false_iff_ne, ne_eq]; omega) with rfl | rfl | rfl | rfl | ⟨c0, c1, c2, c3, c4, c5, c6, c7⟩
  · cases near
    all_goals
      simp [rankG, *] at hv
      have HV := hid hv
      clear hv
      go_wp2_with (first | (go_at_call 37; with_reducible refine (l01In_of ha).mono ?_; rintro e w' ⟨rfl, rfl⟩) | (go_at_call 37; with_reducible refine (l01In_of hb).mono ?_; rintro e w' ⟨rfl, rfl⟩) | (go_at_call 78; refine (l07Near_any _ _ _ _).mono ?_; rintro e w2 ⟨rfl, rfl⟩))
      go_ret
      exact ⟨ret_int HV.out, HB.out⟩
  · cases near
    all_goals
      simp [rankG, *] at hv
      have HV := hid hv
      clear hv
      go_wp2_with (first | (go_at_call 37; with_reducible refine (l01In_of ha).mono ?_; rintro e w' ⟨rfl, rfl⟩) | (go_at_call 37; with_reducible refine (l01In_of hb).mono ?_; rintro e w' ⟨rfl, rfl⟩) | (go_at_call 78; refine (l07Near_any _ _ _ _).mono ?_; rintro e w2 ⟨rfl, rfl⟩))
      go_ret
      exact ⟨ret_int HV.out, HB.out⟩
  · simp [rankG, *] at hv
    have HV := hid hv
    clear hv
    go_wp2_with (first | (go_at_call 37; with_reducible refine (l01In_of ha).mono ?_; rintro e w' ⟨rfl, rfl⟩) | (go_at_call 37; with_reducible refine (l01In_of hb).mono ?_; rintro e w' ⟨rfl, rfl⟩) | (go_at_call 78; refine (l07Near_any _ _ _ _).mono ?_; rintro e w2 ⟨rfl, rfl⟩))
    go_ret
    exact ⟨ret_int HV.out, HB.out⟩
  · simp [rankG, *] at hv
    have HV := hid hv
    clear hv
    go_wp2_with (first | (refine wpList_load_tim HX.out rfl _ (by rfl) (by rfl) ?_) | (go_at_call 37; with_reducible refine (l01In_of ha).mono ?_; rintro e w' ⟨rfl, rfl⟩) | (go_at_call 37; with_reducible refine (l01In_of hb).mono ?_; rintro e w' ⟨rfl, rfl⟩) | (go_at_call 69; refine (specBankGap_yes T _ _ _ HH.out).mono ?_; rintro e w2 ⟨rfl, B2⟩))
    go_ret
    exact ⟨ret_int HV.out, below_step HB.out B2 (Nat.le_refl _)⟩
  · simp [rankG, *] at hv
    have HV := hid hv
    clear hv
    go_wp2_with (first | (go_at_call 37; with_reducible refine (l01In_of ha).mono ?_; rintro e w' ⟨rfl, rfl⟩) | (go_at_call 37; with_reducible refine (l01In_of hb).mono ?_; rintro e w' ⟨rfl, rfl⟩) | (go_at_call 78; refine (l07Near_any _ _ _ _).mono ?_; rintro e w2 ⟨rfl, rfl⟩))
    go_ret
    exact ⟨ret_int HV.out, HB.out⟩
set_option maxHeartbeats 4000000 in
set_option maxRecDepth 100000 in
theorem specRankG_4 (T : Tim) (b : Int) (near : Bool) (w : World) (h : timOk T = true) (hb : inB b 1 9 = true) :
    Calls Tryd.prog 68 #[.agg #[.int .i64 T.t0, .int .i64 T.t1, .int .i64 T.t2, .int .i64 T.t3, .int .i64 T.t4, .int .i64 T.t5, .int .i64 T.t6, .int .i64 T.t7, .int .i64 T.t8, .int .i64 T.t9, .int .i64 T.t10, .int .i64 T.t11, .int .i64 T.t12, .int .i64 T.t13, .int .i64 T.t14, .int .i64 T.t15, .int .i64 T.t16], .int .i64 4, .int .i64 b, .bool near] w fun e w' => e = .returned (.int .i64 (rankG T 4 b near)) ∧ Below w.heap.size w w' := by
  have HH := hid h
  obtain ⟨v, hv⟩ : ∃ v, rankG T 4 b near = v := ⟨_, rfl⟩
  rw [hv]
  have HVV := hid hv
  clear hv
  have ha : inB 4 1 9 = true := by decide
  have HX0 := hid (BoxT.new_ w 34 T rfl)
  go_enter Tryd.func68, Tryd.ntmps68
  go_wp2_with (refine wpList_load_tim HX0.out rfl _ (by rfl) (by rfl) ?_)
  refine (specTimingOk_any T _).mono ?_
  rintro e w1 ⟨rfl, B⟩
  rw [h]
  have HX := hid (HX0.out.old B)
  have HB := hid (below_step (below_alloc _ _) B (Nat.le_refl _))
  clear B h HX0
  have X := HX.out
  have x0 := X.cs 0 _ rfl
  have x1 := X.cs 1 _ rfl
  have x2 := X.cs 2 _ rfl
  have x3 := X.cs 3 _ rfl
  have x4 := X.cs 4 _ rfl
  have x5 := X.cs 5 _ rfl
  have x6 := X.cs 6 _ rfl
  have x7 := X.cs 7 _ rfl
  have x8 := X.cs 8 _ rfl
  have x9 := X.cs 9 _ rfl
  have x10 := X.cs 10 _ rfl
  have x11 := X.cs 11 _ rfl
  have x12 := X.cs 12 _ rfl
  have x13 := X.cs 13 _ rfl
  have x14 := X.cs 14 _ rfl
  have x15 := X.cs 15 _ rfl
  have x16 := X.cs 16 _ rfl
  clear X
  have hv := HVV.out
  clear HVV
  rcases (show b = 4 ∨ b = 6 ∨ b = 8 ∨ ((b == 4) = false ∧ (b == 6) = false ∧ (b == 8) = false ∧ (4 == b) = false ∧ (6 == b) = false ∧ (8 == b) = false) by simp only [beq_eq_false_iff_ne, ne_eq]; omega) with rfl | rfl | rfl | ⟨c0, c1, c2, c3, c4, c5⟩
  · simp [rankG, *] at hv
    have HV := hid hv
    clear hv
    go_wp2_with (first | (go_at_call 37; with_reducible refine (l01In_of ha).mono ?_; rintro e w' ⟨rfl, rfl⟩) | (go_at_call 37; with_reducible refine (l01In_of hb).mono ?_; rintro e w' ⟨rfl, rfl⟩) | (go_at_call 78; refine (l07Near_any _ _ _ _).mono ?_; rintro e w2 ⟨rfl, rfl⟩))
    go_ret
    exact ⟨ret_int HV.out, HB.out⟩
  · simp [rankG, *] at hv
    have HV := hid hv
    clear hv
    go_wp2_with (first | (go_at_call 37; with_reducible refine (l01In_of ha).mono ?_; rintro e w' ⟨rfl, rfl⟩) | (go_at_call 37; with_reducible refine (l01In_of hb).mono ?_; rintro e w' ⟨rfl, rfl⟩) | (go_at_call 78; refine (l07Near_any _ _ _ _).mono ?_; rintro e w2 ⟨rfl, rfl⟩))
    go_ret
    exact ⟨ret_int HV.out, HB.out⟩
  · simp [rankG, *] at hv
    have HV := hid hv
    clear hv
    go_wp2_with (first | (refine wpList_load_tim HX.out rfl _ (by rfl) (by rfl) ?_) | (go_at_call 37; with_reducible refine (l01In_of ha).mono ?_; rintro e w' ⟨rfl, rfl⟩) | (go_at_call 37; with_reducible refine (l01In_of hb).mono ?_; rintro e w' ⟨rfl, rfl⟩) | (go_at_call 69; refine (specBankGap_yes T _ _ _ HH.out).mono ?_; rintro e w2 ⟨rfl, B2⟩))
    go_ret
    exact ⟨ret_int HV.out, below_step HB.out B2 (Nat.le_refl _)⟩
  · simp [rankG, *] at hv
    have HV := hid hv
    clear hv
    go_wp2_with (first | (go_at_call 37; with_reducible refine (l01In_of ha).mono ?_; rintro e w' ⟨rfl, rfl⟩) | (go_at_call 37; with_reducible refine (l01In_of hb).mono ?_; rintro e w' ⟨rfl, rfl⟩) | (go_at_call 78; refine (l07Near_any _ _ _ _).mono ?_; rintro e w2 ⟨rfl, rfl⟩))
    go_ret
    exact ⟨ret_int HV.out, HB.out⟩
set_option maxHeartbeats 4000000 in
set_option maxRecDepth 100000 in
theorem specRankG_5 (T : Tim) (b : Int) (near : Bool) (w : World) (h : timOk T = true) (hb : inB b 1 9 = true) :
    Calls Tryd.prog 68 #[.agg #[.int .i64 T.t0, .int .i64 T.t1, .int .i64 T.t2, .int .i64 T.t3, .int .i64 T.t4, .int .i64 T.t5, .int .i64 T.t6, .int .i64 T.t7, .int .i64 T.t8, .int .i64 T.t9, .int .i64 T.t10, .int .i64 T.t11, .int .i64 T.t12, .int .i64 T.t13, .int .i64 T.t14, .int .i64 T.t15, .int .i64 T.t16], .int .i64 5, .int .i64 b, .bool near] w fun e w' => e = .returned (.int .i64 (rankG T 5 b near)) ∧ Below w.heap.size w w' := by
  have HH := hid h
  obtain ⟨v, hv⟩ : ∃ v, rankG T 5 b near = v := ⟨_, rfl⟩
  rw [hv]
  have HVV := hid hv
  clear hv
  have ha : inB 5 1 9 = true := by decide
  have HX0 := hid (BoxT.new_ w 34 T rfl)
  go_enter Tryd.func68, Tryd.ntmps68
  go_wp2_with (refine wpList_load_tim HX0.out rfl _ (by rfl) (by rfl) ?_)
  refine (specTimingOk_any T _).mono ?_
  rintro e w1 ⟨rfl, B⟩
  rw [h]
  have HX := hid (HX0.out.old B)
  have HB := hid (below_step (below_alloc _ _) B (Nat.le_refl _))
  clear B h HX0
  have X := HX.out
  have x0 := X.cs 0 _ rfl
  have x1 := X.cs 1 _ rfl
  have x2 := X.cs 2 _ rfl
  have x3 := X.cs 3 _ rfl
  have x4 := X.cs 4 _ rfl
  have x5 := X.cs 5 _ rfl
  have x6 := X.cs 6 _ rfl
  have x7 := X.cs 7 _ rfl
  have x8 := X.cs 8 _ rfl
  have x9 := X.cs 9 _ rfl
  have x10 := X.cs 10 _ rfl
  have x11 := X.cs 11 _ rfl
  have x12 := X.cs 12 _ rfl
  have x13 := X.cs 13 _ rfl
  have x14 := X.cs 14 _ rfl
  have x15 := X.cs 15 _ rfl
  have x16 := X.cs 16 _ rfl
  clear X
  have hv := HVV.out
  clear HVV
  rcases (show b = 5 ∨ b = 6 ∨ b = 8 ∨ ((b == 5) = false ∧ (b == 6) = false ∧ (b == 8) = false ∧ (5 == b) = false ∧ (6 == b) = false ∧ (8 == b) = false) by simp only [beq_eq_false_iff_ne, ne_eq]; omega) with rfl | rfl | rfl | ⟨c0, c1, c2, c3, c4, c5⟩
  · simp [rankG, *] at hv
    have HV := hid hv
    clear hv
    go_wp2_with (first | (go_at_call 37; with_reducible refine (l01In_of ha).mono ?_; rintro e w' ⟨rfl, rfl⟩) | (go_at_call 37; with_reducible refine (l01In_of hb).mono ?_; rintro e w' ⟨rfl, rfl⟩) | (go_at_call 78; refine (l07Near_any _ _ _ _).mono ?_; rintro e w2 ⟨rfl, rfl⟩))
    go_ret
    exact ⟨ret_int HV.out, HB.out⟩
  · simp [rankG, *] at hv
    have HV := hid hv
    clear hv
    go_wp2_with (first | (go_at_call 37; with_reducible refine (l01In_of ha).mono ?_; rintro e w' ⟨rfl, rfl⟩) | (go_at_call 37; with_reducible refine (l01In_of hb).mono ?_; rintro e w' ⟨rfl, rfl⟩) | (go_at_call 78; refine (l07Near_any _ _ _ _).mono ?_; rintro e w2 ⟨rfl, rfl⟩))
    go_ret
    exact ⟨ret_int HV.out, HB.out⟩
  · simp [rankG, *] at hv
    have HV := hid hv
    clear hv
    go_wp2_with (first | (refine wpList_load_tim HX.out rfl _ (by rfl) (by rfl) ?_) | (go_at_call 37; with_reducible refine (l01In_of ha).mono ?_; rintro e w' ⟨rfl, rfl⟩) | (go_at_call 37; with_reducible refine (l01In_of hb).mono ?_; rintro e w' ⟨rfl, rfl⟩) | (go_at_call 69; refine (specBankGap_yes T _ _ _ HH.out).mono ?_; rintro e w2 ⟨rfl, B2⟩))
    go_ret
    exact ⟨ret_int HV.out, below_step HB.out B2 (Nat.le_refl _)⟩
  · simp [rankG, *] at hv
    have HV := hid hv
    clear hv
    go_wp2_with (first | (go_at_call 37; with_reducible refine (l01In_of ha).mono ?_; rintro e w' ⟨rfl, rfl⟩) | (go_at_call 37; with_reducible refine (l01In_of hb).mono ?_; rintro e w' ⟨rfl, rfl⟩) | (go_at_call 78; refine (l07Near_any _ _ _ _).mono ?_; rintro e w2 ⟨rfl, rfl⟩))
    go_ret
    exact ⟨ret_int HV.out, HB.out⟩
set_option maxHeartbeats 4000000 in
set_option maxRecDepth 100000 in
theorem specRankG_6 (T : Tim) (b : Int) (near : Bool) (w : World) (h : timOk T = true) (hb : inB b 1 9 = true) :
    Calls Tryd.prog 68 #[.agg #[.int .i64 T.t0, .int .i64 T.t1, .int .i64 T.t2, .int .i64 T.t3, .int .i64 T.t4, .int .i64 T.t5, .int .i64 T.t6, .int .i64 T.t7, .int .i64 T.t8, .int .i64 T.t9, .int .i64 T.t10, .int .i64 T.t11, .int .i64 T.t12, .int .i64 T.t13, .int .i64 T.t14, .int .i64 T.t15, .int .i64 T.t16], .int .i64 6, .int .i64 b, .bool near] w fun e w' => e = .returned (.int .i64 (rankG T 6 b near)) ∧ Below w.heap.size w w' := by
  have HH := hid h
  obtain ⟨v, hv⟩ : ∃ v, rankG T 6 b near = v := ⟨_, rfl⟩
  rw [hv]
  have HVV := hid hv
  clear hv
  have ha : inB 6 1 9 = true := by decide
  have HX0 := hid (BoxT.new_ w 34 T rfl)
  go_enter Tryd.func68, Tryd.ntmps68
  go_wp2_with (refine wpList_load_tim HX0.out rfl _ (by rfl) (by rfl) ?_)
  refine (specTimingOk_any T _).mono ?_
  rintro e w1 ⟨rfl, B⟩
  rw [h]
  have HX := hid (HX0.out.old B)
  have HB := hid (below_step (below_alloc _ _) B (Nat.le_refl _))
  clear B h HX0
  have X := HX.out
  have x0 := X.cs 0 _ rfl
  have x1 := X.cs 1 _ rfl
  have x2 := X.cs 2 _ rfl
  have x3 := X.cs 3 _ rfl
  have x4 := X.cs 4 _ rfl
  have x5 := X.cs 5 _ rfl
  have x6 := X.cs 6 _ rfl
  have x7 := X.cs 7 _ rfl
  have x8 := X.cs 8 _ rfl
  have x9 := X.cs 9 _ rfl
  have x10 := X.cs 10 _ rfl
  have x11 := X.cs 11 _ rfl
  have x12 := X.cs 12 _ rfl
  have x13 := X.cs 13 _ rfl
  have x14 := X.cs 14 _ rfl
  have x15 := X.cs 15 _ rfl
  have x16 := X.cs 16 _ rfl
  clear X
  have hv := HVV.out
  clear HVV
  rcases (show b = 6 ∨ b = 7 ∨ b = 8 ∨ ((b == 6) = false ∧ (b == 7) = false ∧ (b == 8) = false ∧ (6 == b) = false ∧ (7 == b) = false ∧ (8 == b) = false) by simp only [beq_eq_false_iff_ne, ne_eq]; omega) with rfl | rfl | rfl | ⟨c0, c1, c2, c3, c4, c5⟩
  · simp [rankG, *] at hv
    have HV := hid hv
    clear hv
    go_wp2_with (first | (go_at_call 37; with_reducible refine (l01In_of ha).mono ?_; rintro e w' ⟨rfl, rfl⟩) | (go_at_call 37; with_reducible refine (l01In_of hb).mono ?_; rintro e w' ⟨rfl, rfl⟩) | (go_at_call 78; refine (l07Near_any _ _ _ _).mono ?_; rintro e w2 ⟨rfl, rfl⟩))
    go_ret
    exact ⟨ret_int HV.out, HB.out⟩
  · simp [rankG, *] at hv
    have HV := hid hv
    clear hv
    go_wp2_with (first | (go_at_call 37; with_reducible refine (l01In_of ha).mono ?_; rintro e w' ⟨rfl, rfl⟩) | (go_at_call 37; with_reducible refine (l01In_of hb).mono ?_; rintro e w' ⟨rfl, rfl⟩) | (go_at_call 78; refine (l07Near_any _ _ _ _).mono ?_; rintro e w2 ⟨rfl, rfl⟩))
    go_ret
    exact ⟨ret_int HV.out, HB.out⟩
  · simp [rankG, *] at hv
    have HV := hid hv
    clear hv
    go_wp2_with (first | (refine wpList_load_tim HX.out rfl _ (by rfl) (by rfl) ?_) | (go_at_call 37; with_reducible refine (l01In_of ha).mono ?_; rintro e w' ⟨rfl, rfl⟩) | (go_at_call 37; with_reducible refine (l01In_of hb).mono ?_; rintro e w' ⟨rfl, rfl⟩) | (go_at_call 69; refine (specBankGap_yes T _ _ _ HH.out).mono ?_; rintro e w2 ⟨rfl, B2⟩))
    go_ret
    exact ⟨ret_int HV.out, below_step HB.out B2 (Nat.le_refl _)⟩
  · simp [rankG, *] at hv
    have HV := hid hv
    clear hv
    go_wp2_with (first | (go_at_call 37; with_reducible refine (l01In_of ha).mono ?_; rintro e w' ⟨rfl, rfl⟩) | (go_at_call 37; with_reducible refine (l01In_of hb).mono ?_; rintro e w' ⟨rfl, rfl⟩) | (go_at_call 78; refine (l07Near_any _ _ _ _).mono ?_; rintro e w2 ⟨rfl, rfl⟩))
    go_ret
    exact ⟨ret_int HV.out, HB.out⟩
set_option maxHeartbeats 4000000 in
set_option maxRecDepth 100000 in
theorem specRankG_7 (T : Tim) (b : Int) (near : Bool) (w : World) (h : timOk T = true) (hb : inB b 1 9 = true) :
    Calls Tryd.prog 68 #[.agg #[.int .i64 T.t0, .int .i64 T.t1, .int .i64 T.t2, .int .i64 T.t3, .int .i64 T.t4, .int .i64 T.t5, .int .i64 T.t6, .int .i64 T.t7, .int .i64 T.t8, .int .i64 T.t9, .int .i64 T.t10, .int .i64 T.t11, .int .i64 T.t12, .int .i64 T.t13, .int .i64 T.t14, .int .i64 T.t15, .int .i64 T.t16], .int .i64 7, .int .i64 b, .bool near] w fun e w' => e = .returned (.int .i64 (rankG T 7 b near)) ∧ Below w.heap.size w w' := by
  have HH := hid h
  obtain ⟨v, hv⟩ : ∃ v, rankG T 7 b near = v := ⟨_, rfl⟩
  rw [hv]
  have HVV := hid hv
  clear hv
  have ha : inB 7 1 9 = true := by decide
  have HX0 := hid (BoxT.new_ w 34 T rfl)
  go_enter Tryd.func68, Tryd.ntmps68
  go_wp2_with (refine wpList_load_tim HX0.out rfl _ (by rfl) (by rfl) ?_)
  refine (specTimingOk_any T _).mono ?_
  rintro e w1 ⟨rfl, B⟩
  rw [h]
  have HX := hid (HX0.out.old B)
  have HB := hid (below_step (below_alloc _ _) B (Nat.le_refl _))
  clear B h HX0
  have X := HX.out
  have x0 := X.cs 0 _ rfl
  have x1 := X.cs 1 _ rfl
  have x2 := X.cs 2 _ rfl
  have x3 := X.cs 3 _ rfl
  have x4 := X.cs 4 _ rfl
  have x5 := X.cs 5 _ rfl
  have x6 := X.cs 6 _ rfl
  have x7 := X.cs 7 _ rfl
  have x8 := X.cs 8 _ rfl
  have x9 := X.cs 9 _ rfl
  have x10 := X.cs 10 _ rfl
  have x11 := X.cs 11 _ rfl
  have x12 := X.cs 12 _ rfl
  have x13 := X.cs 13 _ rfl
  have x14 := X.cs 14 _ rfl
  have x15 := X.cs 15 _ rfl
  have x16 := X.cs 16 _ rfl
  clear X
  have hv := HVV.out
  clear HVV
  simp [rankG, *] at hv
  have HV := hid hv
  clear hv
  go_wp2_with (first | (go_at_call 37; with_reducible refine (l01In_of ha).mono ?_; rintro e w' ⟨rfl, rfl⟩) | (go_at_call 37; with_reducible refine (l01In_of hb).mono ?_; rintro e w' ⟨rfl, rfl⟩) | (go_at_call 78; refine (l07Near_any _ _ _ _).mono ?_; rintro e w2 ⟨rfl, rfl⟩))
  go_ret
  exact ⟨ret_int HV.out, HB.out⟩
set_option maxHeartbeats 4000000 in
set_option maxRecDepth 100000 in
theorem specRankG_8 (T : Tim) (b : Int) (near : Bool) (w : World) (h : timOk T = true) (hb : inB b 1 9 = true) :
    Calls Tryd.prog 68 #[.agg #[.int .i64 T.t0, .int .i64 T.t1, .int .i64 T.t2, .int .i64 T.t3, .int .i64 T.t4, .int .i64 T.t5, .int .i64 T.t6, .int .i64 T.t7, .int .i64 T.t8, .int .i64 T.t9, .int .i64 T.t10, .int .i64 T.t11, .int .i64 T.t12, .int .i64 T.t13, .int .i64 T.t14, .int .i64 T.t15, .int .i64 T.t16], .int .i64 8, .int .i64 b, .bool near] w fun e w' => e = .returned (.int .i64 (rankG T 8 b near)) ∧ Below w.heap.size w w' := by
  have HH := hid h
  obtain ⟨v, hv⟩ : ∃ v, rankG T 8 b near = v := ⟨_, rfl⟩
  rw [hv]
  have HVV := hid hv
  clear hv
  have ha : inB 8 1 9 = true := by decide
  have HX0 := hid (BoxT.new_ w 34 T rfl)
  go_enter Tryd.func68, Tryd.ntmps68
  go_wp2_with (refine wpList_load_tim HX0.out rfl _ (by rfl) (by rfl) ?_)
  refine (specTimingOk_any T _).mono ?_
  rintro e w1 ⟨rfl, B⟩
  rw [h]
  have HX := hid (HX0.out.old B)
  have HB := hid (below_step (below_alloc _ _) B (Nat.le_refl _))
  clear B h HX0
  have X := HX.out
  have x0 := X.cs 0 _ rfl
  have x1 := X.cs 1 _ rfl
  have x2 := X.cs 2 _ rfl
  have x3 := X.cs 3 _ rfl
  have x4 := X.cs 4 _ rfl
  have x5 := X.cs 5 _ rfl
  have x6 := X.cs 6 _ rfl
  have x7 := X.cs 7 _ rfl
  have x8 := X.cs 8 _ rfl
  have x9 := X.cs 9 _ rfl
  have x10 := X.cs 10 _ rfl
  have x11 := X.cs 11 _ rfl
  have x12 := X.cs 12 _ rfl
  have x13 := X.cs 13 _ rfl
  have x14 := X.cs 14 _ rfl
  have x15 := X.cs 15 _ rfl
  have x16 := X.cs 16 _ rfl
  clear X
  have hv := HVV.out
  clear HVV
  rcases (show b = 9 ∨ b = 8 ∨ b = 6 ∨ ((b == 9) = false ∧ (b == 8) = false ∧ (b == 6) = false ∧ (9 == b) = false ∧ (8 == b) = false ∧ (6 == b) = false) by simp only [beq_eq_false_iff_ne, ne_eq]; omega) with rfl | rfl | rfl | ⟨c0, c1, c2, c3, c4, c5⟩
  · simp [rankG, *] at hv
    have HV := hid hv
    clear hv
    go_wp2_with (first | (go_at_call 37; with_reducible refine (l01In_of ha).mono ?_; rintro e w' ⟨rfl, rfl⟩) | (go_at_call 37; with_reducible refine (l01In_of hb).mono ?_; rintro e w' ⟨rfl, rfl⟩) | (go_at_call 78; refine (l07Near_any _ _ _ _).mono ?_; rintro e w2 ⟨rfl, rfl⟩))
    go_ret
    exact ⟨ret_int HV.out, HB.out⟩
  · simp [rankG, *] at hv
    have HV := hid hv
    clear hv
    go_wp2_with (first | (refine wpList_load_tim HX.out rfl _ (by rfl) (by rfl) ?_) | (go_at_call 37; with_reducible refine (l01In_of ha).mono ?_; rintro e w' ⟨rfl, rfl⟩) | (go_at_call 37; with_reducible refine (l01In_of hb).mono ?_; rintro e w' ⟨rfl, rfl⟩) | (go_at_call 69; refine (specBankGap_yes T _ _ _ HH.out).mono ?_; rintro e w2 ⟨rfl, B2⟩))
    go_ret
    exact ⟨ret_int HV.out, below_step HB.out B2 (Nat.le_refl _)⟩
  · simp [rankG, *] at hv
    have HV := hid hv
    clear hv
    go_wp2_with (first | (go_at_call 37; with_reducible refine (l01In_of ha).mono ?_; rintro e w' ⟨rfl, rfl⟩) | (go_at_call 37; with_reducible refine (l01In_of hb).mono ?_; rintro e w' ⟨rfl, rfl⟩) | (go_at_call 78; refine (l07Near_any _ _ _ _).mono ?_; rintro e w2 ⟨rfl, rfl⟩))
    go_ret
    exact ⟨ret_int HV.out, HB.out⟩
  · simp [rankG, *] at hv
    have HV := hid hv
    clear hv
    go_wp2_with (first | (go_at_call 37; with_reducible refine (l01In_of ha).mono ?_; rintro e w' ⟨rfl, rfl⟩) | (go_at_call 37; with_reducible refine (l01In_of hb).mono ?_; rintro e w' ⟨rfl, rfl⟩) | (go_at_call 78; refine (l07Near_any _ _ _ _).mono ?_; rintro e w2 ⟨rfl, rfl⟩))
    go_ret
    exact ⟨ret_int HV.out, HB.out⟩
set_option maxHeartbeats 4000000 in
set_option maxRecDepth 100000 in
theorem specRankG_9 (T : Tim) (b : Int) (near : Bool) (w : World) (h : timOk T = true) (hb : inB b 1 9 = true) :
    Calls Tryd.prog 68 #[.agg #[.int .i64 T.t0, .int .i64 T.t1, .int .i64 T.t2, .int .i64 T.t3, .int .i64 T.t4, .int .i64 T.t5, .int .i64 T.t6, .int .i64 T.t7, .int .i64 T.t8, .int .i64 T.t9, .int .i64 T.t10, .int .i64 T.t11, .int .i64 T.t12, .int .i64 T.t13, .int .i64 T.t14, .int .i64 T.t15, .int .i64 T.t16], .int .i64 9, .int .i64 b, .bool near] w fun e w' => e = .returned (.int .i64 (rankG T 9 b near)) ∧ Below w.heap.size w w' := by
  have HH := hid h
  obtain ⟨v, hv⟩ : ∃ v, rankG T 9 b near = v := ⟨_, rfl⟩
  rw [hv]
  have HVV := hid hv
  clear hv
  have ha : inB 9 1 9 = true := by decide
  have HX0 := hid (BoxT.new_ w 34 T rfl)
  go_enter Tryd.func68, Tryd.ntmps68
  go_wp2_with (refine wpList_load_tim HX0.out rfl _ (by rfl) (by rfl) ?_)
  refine (specTimingOk_any T _).mono ?_
  rintro e w1 ⟨rfl, B⟩
  rw [h]
  have HX := hid (HX0.out.old B)
  have HB := hid (below_step (below_alloc _ _) B (Nat.le_refl _))
  clear B h HX0
  have X := HX.out
  have x0 := X.cs 0 _ rfl
  have x1 := X.cs 1 _ rfl
  have x2 := X.cs 2 _ rfl
  have x3 := X.cs 3 _ rfl
  have x4 := X.cs 4 _ rfl
  have x5 := X.cs 5 _ rfl
  have x6 := X.cs 6 _ rfl
  have x7 := X.cs 7 _ rfl
  have x8 := X.cs 8 _ rfl
  have x9 := X.cs 9 _ rfl
  have x10 := X.cs 10 _ rfl
  have x11 := X.cs 11 _ rfl
  have x12 := X.cs 12 _ rfl
  have x13 := X.cs 13 _ rfl
  have x14 := X.cs 14 _ rfl
  have x15 := X.cs 15 _ rfl
  have x16 := X.cs 16 _ rfl
  clear X
  have hv := HVV.out
  clear HVV
  simp [rankG, *] at hv
  have HV := hid hv
  clear hv
  go_wp2_with (first | (go_at_call 37; with_reducible refine (l01In_of ha).mono ?_; rintro e w' ⟨rfl, rfl⟩) | (go_at_call 37; with_reducible refine (l01In_of hb).mono ?_; rintro e w' ⟨rfl, rfl⟩) | (go_at_call 78; refine (l07Near_any _ _ _ _).mono ?_; rintro e w2 ⟨rfl, rfl⟩))
  go_ret
  exact ⟨ret_int HV.out, HB.out⟩
theorem specRankG_any (T : Tim) (a b : Int) (near : Bool) (w : World) (h : timOk T = true) (ha : inB a 1 9 = true) (hb : inB b 1 9 = true) :
    Calls Tryd.prog 68 #[.agg #[.int .i64 T.t0, .int .i64 T.t1, .int .i64 T.t2, .int .i64 T.t3, .int .i64 T.t4, .int .i64 T.t5, .int .i64 T.t6, .int .i64 T.t7, .int .i64 T.t8, .int .i64 T.t9, .int .i64 T.t10, .int .i64 T.t11, .int .i64 T.t12, .int .i64 T.t13, .int .i64 T.t14, .int .i64 T.t15, .int .i64 T.t16], .int .i64 a, .int .i64 b, .bool near] w fun e w' => e = .returned (.int .i64 (rankG T a b near)) ∧ Below w.heap.size w w' := by
  rcases kind9_of ha with rfl | rfl | rfl | rfl | rfl | rfl | rfl | rfl | rfl
  · exact specRankG_1 T b near w h hb
  · exact specRankG_2 T b near w h hb
  · exact specRankG_3 T b near w h hb
  · exact specRankG_4 T b near w h hb
  · exact specRankG_5 T b near w h hb
  · exact specRankG_6 T b near w h hb
  · exact specRankG_7 T b near w h hb
  · exact specRankG_8 T b near w h hb
  · exact specRankG_9 T b near w h hb
/-- A kind that is none has no distance. -/
theorem rankG_none {T : Tim} {a b : Int} {near : Bool} (ha : inB a 1 9 = false) : rankG T a b near = 0 := by
  have h : a ≠ 1 ∧ a ≠ 2 ∧ a ≠ 3 ∧ a ≠ 4 ∧ a ≠ 5 ∧ a ≠ 6 ∧ a ≠ 7 ∧ a ≠ 8 ∧ a ≠ 9 := by
    refine ⟨?_, ?_, ?_, ?_, ?_, ?_, ?_, ?_, ?_⟩ <;> (rintro rfl; revert ha; decide)
  obtain ⟨h1, h2, h3, h4, h5, h6, h7, h8, h9⟩ := h
  simp [rankG, bankG, h1, h2, h3, h4, h5, h6, h7, h8, h9]
set_option maxHeartbeats 1000000 in
set_option maxRecDepth 100000 in
theorem specRankGap_any (T : Tim) (a b : Int) (near : Bool) (w : World) :
    Calls Tryd.prog 68 #[.agg #[.int .i64 T.t0, .int .i64 T.t1, .int .i64 T.t2, .int .i64 T.t3, .int .i64 T.t4, .int .i64 T.t5, .int .i64 T.t6, .int .i64 T.t7, .int .i64 T.t8, .int .i64 T.t9, .int .i64 T.t10, .int .i64 T.t11, .int .i64 T.t12, .int .i64 T.t13, .int .i64 T.t14, .int .i64 T.t15, .int .i64 T.t16], .int .i64 a, .int .i64 b, .bool near] w fun e w' => e = .returned (.int .i64 (rankGap T a b near)) ∧ Below w.heap.size w w' := by
  have HX0 := hid (BoxT.new_ w 34 T rfl)
  cases h : timOk T with
  | false =>
    have HV := hid (show rankGap T a b near = 0 by simp [rankGap, h])
    go_enter Tryd.func68, Tryd.ntmps68
    go_wp2_with (refine wpList_load_tim HX0.out rfl _ (by rfl) (by rfl) ?_)
    refine (specTimingOk_any T _).mono ?_
    rintro e w1 ⟨rfl, B⟩
    rw [h]
    go_wp2_with fail
    go_ret
    exact ⟨by rw [HV.out]; rfl, below_step (below_alloc _ _) B (Nat.le_refl _)⟩
  | true =>
    cases ha : inB a 1 9 with
    | false =>
      have HV := hid (show rankGap T a b near = 0 by simp [rankGap, rankG_none ha])
      go_enter Tryd.func68, Tryd.ntmps68
      go_wp2_with (refine wpList_load_tim HX0.out rfl _ (by rfl) (by rfl) ?_)
      refine (specTimingOk_any T _).mono ?_
      rintro e w1 ⟨rfl, B⟩
      rw [h]
      go_wp2_with (go_at_call 37; with_reducible refine (l01In_of ha).mono ?_; rintro e w' ⟨rfl, rfl⟩)
      go_ret
      exact ⟨by rw [HV.out]; rfl, below_step (below_alloc _ _) B (Nat.le_refl _)⟩
    | true =>
      cases hb : inB b 1 9 with
      | false =>
        have HV := hid (show rankGap T a b near = 0 by simp [rankGap, hb])
        go_enter Tryd.func68, Tryd.ntmps68
        go_wp2_with (refine wpList_load_tim HX0.out rfl _ (by rfl) (by rfl) ?_)
        refine (specTimingOk_any T _).mono ?_
        rintro e w1 ⟨rfl, B⟩
        rw [h]
        go_wp2_with (first | (go_at_call 37; with_reducible refine (l01In_of ha).mono ?_; rintro e w' ⟨rfl, rfl⟩) | (go_at_call 37; with_reducible refine (l01In_of hb).mono ?_; rintro e w' ⟨rfl, rfl⟩))
        go_ret
        exact ⟨by rw [HV.out]; rfl, below_step (below_alloc _ _) B (Nat.le_refl _)⟩
      | true =>
        rw [show rankGap T a b near = rankG T a b near by simp [rankGap, h, hb]]
        exact specRankG_any T a b near w h ha hb
end Go.Proofs.YtggjheapjklhgaaDoor
