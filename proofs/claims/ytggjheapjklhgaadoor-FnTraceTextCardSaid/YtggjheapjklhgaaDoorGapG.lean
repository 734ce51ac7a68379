/- Distances of commands: what the program's and the reference's functions return. -/
import Derived.Test.YtggjheapjklhgaaDoorGapR
import Derived.Test.YtggjheapjklhgaaDoorGapS
import Derived.Test.YtggjheapjklhgaaDoorCmdW
namespace Go.Proofs.YtggjheapjklhgaaDoor
open Go.RowKit

theorem specCommandOk_any (G : Geo) (C : Cmd) (w : World) :
    Calls Tryd.prog 64 #[.agg #[.int .i64 G.a, .int .i64 G.b, .int .i64 G.r, .int .i64 G.c], .agg #[.int .i64 C.k, .int .i64 C.b, .int .i64 C.r, .int .i64 C.c]] w fun e w' => e = .returned (.bool (cmdOk G C)) ∧ Below w.heap.size w w' := by
  have HX := hid ((BoxG.new_ w 32 G rfl).old (below_alloc _ (.cells #[.int .i64 C.k, .int .i64 C.b, .int .i64 C.r, .int .i64 C.c] 40)))
  have HY := hid (BoxC.new_ (w.alloc (.cells #[.int .i64 G.a, .int .i64 G.b, .int .i64 G.r, .int .i64 G.c] 32)) 40 C (show _ = w.heap.size + 1 by simp))
  cases hf : formC C with
  | false =>
    have HV := hid (show cmdOk G C = false by rw [← cmdOk_spec, hf]; rfl)
    go_enter Tryd.func64, Tryd.ntmps64
    go_wp2_with fail
    refine (l06Form_any C _).mono ?_
    rintro e w1 ⟨rfl, B⟩
    rw [hf]
    go_wp2_with fail
    go_ret
    exact ⟨by rw [HV.out]; rfl, below_step (below_alloc2 _ _ _) B (Nat.le_refl _)⟩
  | true =>
    have HV := hid (show cmdOk G C = adrOk G ⟨C.b, C.r, C.c⟩ by rw [← cmdOk_spec, hf]; rfl)
    go_enter Tryd.func64, Tryd.ntmps64
    go_wp2_with fail
    refine (l06Form_any C _).mono ?_
    rintro e w1 ⟨rfl, B⟩
    rw [hf]
    have HB := hid (below_step (below_alloc2 _ _ _) B (Nat.le_refl _))
    obtain ⟨hlt, c0, c1, c2, c3⟩ := HX.out.old B
    obtain ⟨hlt', d0, d1, d2, d3⟩ := HY.out.old B
    clear B HX HY hf
    go_wp2_with fail
    clear c0 c1 c2 c3 d0 d1 d2 d3
    refine (specAddrOk_any G ⟨C.b, C.r, C.c⟩ _).mono ?_
    rintro e w2 ⟨rfl, B2⟩
    go_wp2_with fail
    go_ret
    exact ⟨by rw [HV.out]; rfl, below_step HB.out B2 (Nat.le_refl _)⟩
theorem usesB_cases (A B : Cmd) : (usesB A.k && usesB B.k) = true ∨ usesB A.k = false ∨ (usesB A.k = true ∧ usesB B.k = false) := by
  cases usesB A.k <;> cases usesB B.k <;> simp
/-- The four boxes of a call of the distance's function. -/
structure Box4 (W : World) (b : Nat) (G : Geo) (T : Tim) (A B : Cmd) : Prop where
  g : BoxG W b G
  t : BoxT W (b + 1) T
  a : BoxC W (b + 1 + 1) A
  c : BoxC W (b + 1 + 1 + 1) B
theorem Box4.new (w : World) (G : Geo) (T : Tim) (A B : Cmd) : Box4 ((((w.alloc (.cells #[.int .i64 G.a, .int .i64 G.b, .int .i64 G.r, .int .i64 G.c] 32)).alloc (.cells #[.int .i64 T.t0, .int .i64 T.t1, .int .i64 T.t2, .int .i64 T.t3, .int .i64 T.t4, .int .i64 T.t5, .int .i64 T.t6, .int .i64 T.t7, .int .i64 T.t8, .int .i64 T.t9, .int .i64 T.t10, .int .i64 T.t11, .int .i64 T.t12, .int .i64 T.t13, .int .i64 T.t14, .int .i64 T.t15, .int .i64 T.t16] 34)).alloc (.cells #[.int .i64 A.k, .int .i64 A.b, .int .i64 A.r, .int .i64 A.c] 40)).alloc (.cells #[.int .i64 B.k, .int .i64 B.b, .int .i64 B.r, .int .i64 B.c] 40)) w.heap.size G T A B :=
  ⟨(((BoxG.new_ w _ G rfl).old (below_alloc _ _)).old (below_alloc _ _)).old (below_alloc _ _), ((BoxT.new_ (w.alloc _) _ T (by simp)).old (below_alloc _ _)).old (below_alloc _ _), (BoxC.new_ ((w.alloc _).alloc _) _ A (by simp)).old (below_alloc _ _), BoxC.new_ (((w.alloc _).alloc _).alloc _) _ B (by simp)⟩
theorem Box4.old {w w' : World} {b : Nat} {G : Geo} {T : Tim} {A B : Cmd} (h : Box4 w b G T A B) (hb : Below w.heap.size w w') : Box4 w' b G T A B := ⟨h.g.old hb, h.t.old hb, h.a.old hb, h.c.old hb⟩
theorem below_allocs4 (w : World) (o1 o2 o3 o4 : Obj) : Below w.heap.size w ((((w.alloc o1).alloc o2).alloc o3).alloc o4) := (below_alloc3 w o1 o2 o3).alloc (by simp; omega) _
/-- What the distance asks of a command. -/
def bkOk (G : Geo) (A : Cmd) : Prop := (1 ≤ A.k ∧ A.k ≤ 9) ∧ (usesB A.k = true → 0 ≤ A.b ∧ A.b ≤ bankN G - 1)
theorem bkOk_of {G : Geo} {A : Cmd} (h : cmdOk G A = true) : bkOk G A := by
  obtain ⟨_, h1, h2, _⟩ := cmdOk_parts h
  exact ⟨h1, h2.1⟩
theorem mx_comm (a b : Int) : mx a b = mx b a := by unfold mx; split <;> split <;> omega
theorem mx_31 (v u : Int) : mx (mx v u) 1 = mx (mx 1 v) u := by unfold mx; (repeat split) <;> omega
theorem specRankG_of {T : Tim} {a b : Int} {near : Bool} {w : World} {v : Int} (h : rankG T a b near = v) (ht : timOk T = true) (ha : inB a 1 9 = true) (hb : inB b 1 9 = true) :
    Calls Tryd.prog 68 #[.agg #[.int .i64 T.t0, .int .i64 T.t1, .int .i64 T.t2, .int .i64 T.t3, .int .i64 T.t4, .int .i64 T.t5, .int .i64 T.t6, .int .i64 T.t7, .int .i64 T.t8, .int .i64 T.t9, .int .i64 T.t10, .int .i64 T.t11, .int .i64 T.t12, .int .i64 T.t13, .int .i64 T.t14, .int .i64 T.t15, .int .i64 T.t16], .int .i64 a, .int .i64 b, .bool near] w fun e w' => e = .returned (.int .i64 v) ∧ Below w.heap.size w w' := by subst h; exact specRankG_any _ _ _ _ _ ht ha hb
theorem usesB_le {k : Int} (h1 : 1 ≤ k) : usesB k = decide (k ≤ 5) := by
  unfold usesB inB
  have : decide (1 ≤ k) = true := by simp; omega
  rw [this]; simp
set_option maxHeartbeats 4000000 in
set_option maxRecDepth 100000 in
theorem l07Gap_no (G : Geo) (T : Tim) (A B : Cmd) (w : World) (ht : timOk T = true) (kA : bkOk G A) (kB : bkOk G B) (hu : (usesB A.k && usesB B.k) = false) :
    Calls Tryd.prog 56 #[.agg #[.int .i64 G.a, .int .i64 G.b, .int .i64 G.r, .int .i64 G.c], .agg #[.int .i64 T.t0, .int .i64 T.t1, .int .i64 T.t2, .int .i64 T.t3, .int .i64 T.t4, .int .i64 T.t5, .int .i64 T.t6, .int .i64 T.t7, .int .i64 T.t8, .int .i64 T.t9, .int .i64 T.t10, .int .i64 T.t11, .int .i64 T.t12, .int .i64 T.t13, .int .i64 T.t14, .int .i64 T.t15, .int .i64 T.t16], .agg #[.int .i64 A.k, .int .i64 A.b, .int .i64 A.r, .int .i64 A.c], .agg #[.int .i64 B.k, .int .i64 B.b, .int .i64 B.r, .int .i64 B.c]] w fun e w' => e = .returned (.int .i64 (gapF G T A B)) ∧ Below w.heap.size w w' := by
  have HT := hid ht
  have HA := hid (inB_iff.2 kA.1)
  have HB9 := hid (inB_iff.2 kB.1)
  have HV := hid (show gapF G T A B = mx 1 (rankG T A.k B.k false) by simp [gapF, hu])
  obtain ⟨v, hv⟩ : ∃ v, rankG T A.k B.k false = v := ⟨_, rfl⟩
  rw [hv, mx_comm] at HV
  have HRV := hid hv
  rw [usesB_le kA.1.1, usesB_le kB.1.1] at hu
  have HN := hid (Box4.new w G T A B)
  have HB := hid (below_allocs4 w (.cells #[.int .i64 G.a, .int .i64 G.b, .int .i64 G.r, .int .i64 G.c] 32) (.cells #[.int .i64 T.t0, .int .i64 T.t1, .int .i64 T.t2, .int .i64 T.t3, .int .i64 T.t4, .int .i64 T.t5, .int .i64 T.t6, .int .i64 T.t7, .int .i64 T.t8, .int .i64 T.t9, .int .i64 T.t10, .int .i64 T.t11, .int .i64 T.t12, .int .i64 T.t13, .int .i64 T.t14, .int .i64 T.t15, .int .i64 T.t16] 34) (.cells #[.int .i64 A.k, .int .i64 A.b, .int .i64 A.r, .int .i64 A.c] 40) (.cells #[.int .i64 B.k, .int .i64 B.b, .int .i64 B.r, .int .i64 B.c] 40))
  clear ht hv kA kB
  cases dA : decide (A.k ≤ 5) with
  | false =>
    clear hu
    go_enter Tryd.func56, Tryd.ntmps56
    go_wp2_with fail
    refine wp_world (fun W hw => ?_)
    have HN : Hid (Box4 W w.heap.size G T A B) := by rw [hw.out]; exact HN
    have HB : Hid (Below w.heap.size w W) := by rw [hw.out]; exact HB
    clear hw
    obtain ⟨_, a0, a1, a2, a3⟩ := HN.out.a
    obtain ⟨_, c0, c1, c2, c3⟩ := HN.out.c
    have hov := over_cell W
    refine wp_region_over (by kernel_rfl) (by kernel_rfl) ?_
    refine wpQuiet_load_tim (by rintro _ ⟨t, rfl⟩; exact HN.out.t.old t.below) rfl _ (by rfl) (by rfl) ?_
    simp only [Act.put, List.setIfInBounds_toArray, List.set_cons_succ, List.set_cons_zero]
    repeat (go_big_quiet_step ((go_at_call 68; exact calls_over (specRankG_of HRV.out HT.out HA.out HB9.out))))
    refine wpQuiet_nil ?_
    intro W2 B2
    go_wp2_with fail
    all_goals
      go_ret
      exact ⟨by rw [HV.out]; unfold mx; first | (rw [if_pos (by assumption)]; rfl) | (rw [if_neg (by omega)]; rfl), below_step HB.out B2 (Nat.le_refl _)⟩
  | true =>
    rw [dA, Bool.true_and] at hu
    have hu' : decide (B.k ≤ 5) = false := hu
    go_enter Tryd.func56, Tryd.ntmps56
    go_wp2_with fail
    refine wp_world (fun W hw => ?_)
    have HN : Hid (Box4 W w.heap.size G T A B) := by rw [hw.out]; exact HN
    have HB : Hid (Below w.heap.size w W) := by rw [hw.out]; exact HB
    clear hw
    obtain ⟨_, a0, a1, a2, a3⟩ := HN.out.a
    obtain ⟨_, c0, c1, c2, c3⟩ := HN.out.c
    have hov := over_cell W
    refine wp_region_over (by kernel_rfl) (by kernel_rfl) ?_
    refine wpQuiet_load_tim (by rintro _ ⟨t, rfl⟩; exact HN.out.t.old t.below) rfl _ (by rfl) (by rfl) ?_
    simp only [Act.put, List.setIfInBounds_toArray, List.set_cons_succ, List.set_cons_zero]
    repeat (go_big_quiet_step ((go_at_call 68; exact calls_over (specRankG_of HRV.out HT.out HA.out HB9.out))))
    refine wpQuiet_nil ?_
    intro W2 B2
    go_wp2_with fail
    all_goals
      go_ret
      exact ⟨by rw [HV.out]; unfold mx; first | (rw [if_pos (by assumption)]; rfl) | (rw [if_neg (by omega)]; rfl), below_step HB.out B2 (Nat.le_refl _)⟩
set_option maxHeartbeats 4000000 in
set_option maxRecDepth 100000 in
theorem l07Gap_both (G : Geo) (T : Tim) (A B : Cmd) (w : World) (ht : timOk T = true) (hg : gOk G = true) (kA : bkOk G A) (kB : bkOk G B) (hu : usesB A.k = true) (hu2 : usesB B.k = true) :
    Calls Tryd.prog 56 #[.agg #[.int .i64 G.a, .int .i64 G.b, .int .i64 G.r, .int .i64 G.c], .agg #[.int .i64 T.t0, .int .i64 T.t1, .int .i64 T.t2, .int .i64 T.t3, .int .i64 T.t4, .int .i64 T.t5, .int .i64 T.t6, .int .i64 T.t7, .int .i64 T.t8, .int .i64 T.t9, .int .i64 T.t10, .int .i64 T.t11, .int .i64 T.t12, .int .i64 T.t13, .int .i64 T.t14, .int .i64 T.t15, .int .i64 T.t16], .agg #[.int .i64 A.k, .int .i64 A.b, .int .i64 A.r, .int .i64 A.c], .agg #[.int .i64 B.k, .int .i64 B.b, .int .i64 B.r, .int .i64 B.c]] w fun e w' => e = .returned (.int .i64 (gapF G T A B)) ∧ Below w.heap.size w w' := by
  have HT := hid ht
  have HA := hid (inB_iff.2 kA.1)
  have HB9 := hid (inB_iff.2 kB.1)
  have ea : grpOf G A.b = A.b / G.b := by unfold grpOf; rw [if_pos (inB_iff.2 (kA.2 hu))]
  have eb : grpOf G B.b = B.b / G.b := by unfold grpOf; rw [if_pos (inB_iff.2 (kB.2 hu2))]
  have HV0 := hid (show gapF G T A B = if (A.b == B.b) = true then mx (mx 1 (rankG T A.k B.k (A.b / G.b == B.b / G.b))) (bankG T A.k B.k) else mx 1 (rankG T A.k B.k (A.b / G.b == B.b / G.b)) by simp only [gapF, hu, hu2, ea, eb, Bool.true_and])
  obtain ⟨near, hnear⟩ : ∃ v, (A.b / G.b == B.b / G.b) = v := ⟨_, rfl⟩
  rw [hnear] at HV0
  obtain ⟨v, hv⟩ : ∃ v, rankG T A.k B.k near = v := ⟨_, rfl⟩
  rw [hv] at HV0
  have HRV := hid hv
  obtain ⟨u, hu3⟩ : ∃ u, bankG T A.k B.k = u := ⟨_, rfl⟩
  rw [hu3] at HV0
  have HU := hid hu3
  rw [usesB_le kA.1.1] at hu
  rw [usesB_le kB.1.1] at hu2
  have HN := hid (Box4.new w G T A B)
  have HB := hid (below_allocs4 w (.cells #[.int .i64 G.a, .int .i64 G.b, .int .i64 G.r, .int .i64 G.c] 32) (.cells #[.int .i64 T.t0, .int .i64 T.t1, .int .i64 T.t2, .int .i64 T.t3, .int .i64 T.t4, .int .i64 T.t5, .int .i64 T.t6, .int .i64 T.t7, .int .i64 T.t8, .int .i64 T.t9, .int .i64 T.t10, .int .i64 T.t11, .int .i64 T.t12, .int .i64 T.t13, .int .i64 T.t14, .int .i64 T.t15, .int .i64 T.t16] 34) (.cells #[.int .i64 A.k, .int .i64 A.b, .int .i64 A.r, .int .i64 A.c] 40) (.cells #[.int .i64 B.k, .int .i64 B.b, .int .i64 B.r, .int .i64 B.c] 40))
  obtain ⟨_, ⟨q0, q1⟩, _, _⟩ := gOk_iff.1 hg
  have hbn := bankN_bd G
  obtain ⟨p0, p1⟩ := kA.2 (by rw [usesB_le kA.1.1]; exact hu)
  obtain ⟨r0, r1⟩ := kB.2 (by rw [usesB_le kB.1.1]; exact hu2)
  clear ht hv kA kB hu3 ea eb hg
  go_enter Tryd.func56, Tryd.ntmps56
  go_wp2_with fail
  refine wp_world (fun W hw => ?_)
  have HN : Hid (Box4 W w.heap.size G T A B) := by rw [hw.out]; exact HN
  have HB : Hid (Below w.heap.size w W) := by rw [hw.out]; exact HB
  clear hw
  obtain ⟨_, a0, a1, a2, a3⟩ := HN.out.a
  obtain ⟨_, c0, c1, c2, c3⟩ := HN.out.c
  obtain ⟨_, g0, g1, g2, g3⟩ := HN.out.g
  have hov := over_cell W
  refine wp_region_over (by kernel_rfl) (by kernel_rfl) ?_
  refine wpQuiet_load_tim (by rintro _ ⟨t, rfl⟩; exact HN.out.t.old t.below) rfl _ (by rfl) (by rfl) ?_
  simp only [Act.put, List.setIfInBounds_toArray, List.set_cons_succ, List.set_cons_zero]
  repeat (go_big_quiet_step ((go_at_call 68; exact calls_over (specRankG_of HRV.out HT.out HA.out HB9.out))))
  refine wpQuiet_nil ?_
  intro W2 B2
  have HN := hid (HN.out.old B2)
  have HB := hid (below_step HB.out B2 (Nat.le_refl _))
  clear hov a0 a1 a2 a3 c0 c1 c2 c3 g0 g1 g2 g3 B2
  obtain ⟨_, a0, a1, a2, a3⟩ := HN.out.a
  obtain ⟨_, c0, c1, c2, c3⟩ := HN.out.c
  cases hbb : (A.b == B.b) with
  | false =>
    have HV := hid (show gapF G T A B = mx v 1 by rw [HV0.out, hbb]; exact mx_comm _ _)
    go_wp2_with fail
    all_goals
      go_ret
      exact ⟨by rw [HV.out]; unfold mx; first | (rw [if_pos (by assumption)]; rfl) | (rw [if_neg (by omega)]; rfl), HB.out⟩
  | true =>
    have HV := hid (show gapF G T A B = mx (mx v u) 1 by rw [HV0.out, hbb, mx_31]; rfl)
    go_wp2_with (refine wpList_load_tim HN.out.t rfl _ (by rfl) (by rfl) ?_)
    clear a0 a1 a2 a3 c0 c1 c2 c3
    refine (specBankGap_yes T _ _ _ HT.out).mono ?_
    rintro e w2 ⟨rfl, B2⟩
    rw [HU.out]
    have e : ∀ x y : Int, (if x < y then y else x) = mx x y := fun _ _ => rfl
    go_wp2_with fail
    all_goals
      go_ret
      exact ⟨by rw [HV.out]; first | rfl | (unfold mx; (repeat split) <;> first | rfl | omega), below_step HB.out B2 (Nat.le_refl _)⟩
theorem l07Gap_any (G : Geo) (T : Tim) (A B : Cmd) (w : World) (ht : timOk T = true) (hg : gOk G = true) (kA : bkOk G A) (kB : bkOk G B) :
    Calls Tryd.prog 56 #[.agg #[.int .i64 G.a, .int .i64 G.b, .int .i64 G.r, .int .i64 G.c], .agg #[.int .i64 T.t0, .int .i64 T.t1, .int .i64 T.t2, .int .i64 T.t3, .int .i64 T.t4, .int .i64 T.t5, .int .i64 T.t6, .int .i64 T.t7, .int .i64 T.t8, .int .i64 T.t9, .int .i64 T.t10, .int .i64 T.t11, .int .i64 T.t12, .int .i64 T.t13, .int .i64 T.t14, .int .i64 T.t15, .int .i64 T.t16], .agg #[.int .i64 A.k, .int .i64 A.b, .int .i64 A.r, .int .i64 A.c], .agg #[.int .i64 B.k, .int .i64 B.b, .int .i64 B.r, .int .i64 B.c]] w fun e w' => e = .returned (.int .i64 (gapF G T A B)) ∧ Below w.heap.size w w' := by
  cases hu : usesB A.k with
  | false => exact l07Gap_no G T A B w ht kA kB (by rw [hu]; rfl)
  | true =>
    cases hu2 : usesB B.k with
    | false => exact l07Gap_no G T A B w ht kA kB (by rw [hu2, Bool.and_false])
    | true => exact l07Gap_both G T A B w ht hg kA kB hu hu2
end Go.Proofs.YtggjheapjklhgaaDoor
