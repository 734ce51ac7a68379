/- The law 'FnRowCycle': for every input the program's function and the reference's agree, so the call returns true and leaves its arguments as they were; no condition. -/
import Derived.Test.YtggjheapjklhgaaRows
import Derived.Test.YtggjheapjklhgaaHead
import Derived.Test.YtggjheapjklhgaaDrU
import Derived.Test.YtggjheapjklhgaaTfP
import Derived.Test.YtggjheapjklhgaaGapB
import Derived.Test.YtggjheapjklhgaaRdyP
import Derived.WalkKit
import Derived.ProofKit
import Derived.OpenShut
import Derived.ShutString
import Derived.ChangeOld
import Derived.Below
namespace Go.Proofs.Ytggjheapjklhgaa.fnRowCycle
open Go.ChangeShapes Go.WideShapes Go.ChangeAt Go.RowKit
set_option linter.unusedVariables false

theorem own : ownKnob Try.prog.godebug = none := by kernel_rfl
theorem laidOut : laidOutB Try.prog = true := by kernel_rfl

theorem bankGap_yes {T : Tim} (h : timOk T = true) (a b : Int) : bankGap T a b = bankG T a b := by unfold bankGap; rw [if_pos h]
theorem bankGap_no {T : Tim} (h : timOk T = false) (a b : Int) : bankGap T a b = 0 := by unfold bankGap; rw [if_neg (by simp [h])]

set_option maxHeartbeats 4000000 in
set_option maxRecDepth 100000 in
theorem walk (w : World) (a0 : Option Addr) (len0 cap0 : Nat) (w0 : BytesR w a0 len0) (m0 : len0 ≤ maxLen) :
    Calls Try.prog 14 #[.slice a0 len0 cap0] w fun e w' => e = .returned (.bool true) ∧ Below w.heap.size w w' := by
  by_cases hlen : 1048576 < len0
  · have hd : decide (1048576 < (len0 : Int)) = true := by simp; omega
    go_enter Try.func14, Try.ntmps14
    go_wp2_with fail
    refine (big_any _ _ _ _ m0).mono ?_
    rintro e w1 ⟨rfl, rfl⟩
    go_wp2_with fail
    go_ret
    exact ⟨rfl, Below.refl _ _⟩
  have hd : decide (1048576 < (len0 : Int)) = false := by simp; omega
  have HW := hid w0
  clear w0
  go_enter Try.func14, Try.ntmps14
  go_wp2_with fail
  refine (big_any _ _ _ _ m0).mono ?_
  rintro e w1 ⟨rfl, rfl⟩
  go_wp2_with fail
  refine (DrawTimingOk_any _ _ _ _ HW.out (by omega)).mono ?_
  rintro e w1 ⟨T, rfl, B⟩
  have HB := hid B
  clear hd HW B
  have HT := hid (Blk.zeroT w1 27)
  have HTT := hid HT.out.there
  go_upto_region 4 with (refine wpList_store_tim (T := T) HTT.out (by rfl) _ _ (by rfl) (by rfl) (by rfl) ?_)
  refine wp_world (fun w2 hw => ?_)
  have HX := hid (BoxT.of_blk (show Blk w2 w1.heap.size 27 (timV T) by rw [hw.out]; exact HT.out.tim T))
  have B : Below w1.heap.size w1 w2 := by rw [hw.out]; exact (below_alloc _ _).trans ((setCells_keeps w1.heap.size (timV T) 0 _).below (by simp) (fun k hk e => by omega))
  have HB := hid (below_step HB.out B (Nat.le_refl _))
  clear hw B HT HTT
  generalize w1.heap.size = p at *
  go_wp2_with (refine wpList_load_tim HX.out (by rfl) _ (by rfl) (by rfl) ?_)
  refine (specTimingOk_any T _).mono ?_
  rintro e w3 ⟨rfl, B⟩
  have HX := hid (HX.out.old B)
  have HB := hid (below_step HB.out B (Nat.le_refl _))
  clear B
  cases ht : timOk T with
  | false =>
    have HTO := hid ht
    clear ht
    go_wp2_with (refine wpList_load_tim HX.out (by rfl) _ (by rfl) (by rfl) ?_)
    refine (implTimingOk_any T _).mono ?_
    rintro e w4 ⟨rfl, B⟩
    have HX := hid (HX.out.old B)
    have HB := hid (below_step HB.out B (Nat.le_refl _))
    clear B
    rw [HTO.out]
    go_wp2_with (refine wpList_load_timW HX.out _ (by rfl) (by rfl) (by rfl) ?_)
    refine (calls_int (bankGap_no HTO.out _ _) (implBankGap_any T 1 4 _)).mono ?_
    rintro e w5 ⟨rfl, B⟩
    have HB := hid (below_step HB.out B (Nat.le_refl _))
    clear B
    go_wp2_with fail
    refine (implFastTiming_any _).mono ?_
    rintro e w6 ⟨rfl, B⟩
    have HB := hid (below_step HB.out B (Nat.le_refl _))
    clear B
    go_wp2_with fail
    refine (calls_boo2 (show timOk fastT = true by decide) (implTimingOk_any fastT _)).mono ?_
    rintro e w7 ⟨rfl, B⟩
    have HB := hid (below_step HB.out B (Nat.le_refl _))
    clear B
    go_wp2_with fail
    go_ret
    exact ⟨rfl, HB.out⟩
  | true =>
    have HTO := hid ht
    have HBD := hid (timOk_bd ht)
    clear ht
    go_wp2_with (refine wpList_load_tim HX.out (by rfl) _ (by rfl) (by rfl) ?_)
    refine (calls_int (show bankGap T 1 4 = T.t2 by rw [bankGap_yes HTO.out]; rfl) (implBankGap_any T 1 4 _)).mono ?_
    rintro e w4 ⟨rfl, B⟩
    have HX := hid (HX.out.old B)
    have HB := hid (below_step HB.out B (Nat.le_refl _))
    clear B
    go_wp2_with (refine wpList_load_tim HX.out (by rfl) _ (by rfl) (by rfl) ?_)
    refine (calls_int (show bankGap T 4 1 = T.t1 by rw [bankGap_yes HTO.out]; rfl) (implBankGap_any T 4 1 _)).mono ?_
    rintro e w5 ⟨rfl, B⟩
    have HX := hid (HX.out.old B)
    have HB := hid (below_step HB.out B (Nat.le_refl _))
    clear B
    go_upto_region 8 with (fail)
    have s1 : IntKind.i64.wrap (T.t2 + T.t1) = T.t2 + T.t1 := IntWalk.i64_in _ (by have h1 := HBD.out.b1; have h2 := HBD.out.b2; omega)
    have s2 : IntKind.i64.wrap (T.t9 + T.t1) = T.t9 + T.t1 := IntWalk.i64_in _ (by have h1 := HBD.out.b1; have h2 := HBD.out.b9; omega)
    have e11 : bankGap T 1 1 = T.t2 + T.t1 := by rw [bankGap_yes HTO.out]; rfl
    have e35 : bankGap T 3 5 = T.t9 + T.t1 := by rw [bankGap_yes HTO.out]; rfl
    have e34 : bankGap T 3 4 = T.t9 := by rw [bankGap_yes HTO.out]; rfl
    have c1 := HX.out.cs 1 (.int .i64 T.t1) rfl
    have c2 := HX.out.cs 2 (.int .i64 T.t2) rfl
    have hp := HX.out.lt
    have hov := over_cell w5
    refine wp_region_over (by kernel_rfl) (by kernel_rfl) ?_
    repeat (first | (refine wpQuiet_load_timW (by rintro _ ⟨t, rfl⟩; exact HX.out.old t.below) _ (by rfl) (by rfl) (by rfl) ?_; simp only [Act.put, List.setIfInBounds_toArray, List.set_cons_succ, List.set_cons_zero]) | go_big_quiet_step ((first | (go_at_call 62; exact calls_over (calls_boo2 HTO.out (implTimingOk_any T _))) | (go_at_call 63; exact calls_over (implBankGap_any T _ _ _)))))
    refine wpQuiet_nil ?_
    intro w6 B
    have HB := hid (below_step HB.out B (Nat.le_refl _))
    clear B hov c1 c2 hp s1 s2 e11 e35 e34
    go_wp2_with fail
    go_ret
    exact ⟨rfl, HB.out⟩

set_option maxRecDepth 100000 in
theorem lifted (os : Os) (started : os.Started) (H : Type) (enc : TypeId × Value → H) :
    ReturnsInHanded {} Try.checked os 14 .any (Rows.fnRowCycleSpec.pre6 enc Try.prog Try.f14 Rows.fnRowCycleRow.domain false) (Rows.fnRowCycleSpec.post enc Try.prog Try.f14 false true false false) := by
  refine returnsInHanded_of_change (C := Try.checked) own started (by kernel_rfl) Try.func14
    (ChangeSpec.witness6 (enc := enc) (C := Try.checked) false ⟨#[], #[.slice none 0 0], []⟩ 8 (by kernel_rfl) (by kernel_rfl) (by kernel_rfl) (by kernel_rfl)) ?_
  intro W base args ds gs before hval0 hW hcnd _
  have hval : ∀ (j : Nat) t v, Try.f14.params[j]? = some t → args[j]? = some v → Value.okWide Try.prog W .any base t v := hval0
  have hW' := hW
  obtain ⟨p, q, hA0, hV, rfl, hfz, hnd⟩ := hW
  have hA : DataW.TrodAll enc Try.prog W 0 (fun _ => true) true Try.f14.params.toList args.toList ds p := hA0
  rw [Try.params14] at hA hval
  obtain ⟨v0, vs0, d0, ds0, p0, q0, hargs, rfl, rfl, h0, r0⟩ := trodAll_cons hA
  obtain ⟨rfl, rfl, rfl⟩ := trodAll_nil r0
  obtain rfl : args = #[v0] := by cases args; simp_all
  obtain ⟨rfl, rfl⟩ := trodVars_none hV
  obtain ⟨a0, len0, cap0, rfl⟩ := okWide_slice Try.underlying22 (hval 0 22 v0 rfl rfl)
  have k0 := h0
  have lt0 : ∀ x ∈ p0, x.block < W.heap.size := by obtain ⟨m, hm⟩ := k0; exact DataW.trod_lt m _ _ _ hm
  obtain ⟨w0, m0⟩ : BytesR W a0 len0 ∧ len0 ≤ maxLen := by
    obtain ⟨fuel, hf⟩ := h0
    rcases open_ints Try.underlying22 Try.underlying5 (by kernel_rfl) hf with ⟨hcs, _⟩ | ⟨x, l, c, zs, hcs, _, hl, hm, hz, _, hcell, hwz⟩
    · simp [Value.cells] at hcs
      obtain ⟨rfl, rfl, rfl⟩ := hcs
      exact ⟨fun i hi => absurd hi (Nat.not_lt_zero _), Nat.zero_le _⟩
    · simp [Value.cells] at hcs
      obtain ⟨rfl, rfl, rfl⟩ := hcs
      exact ⟨BytesR.of_cells hl (by simpa using hz) hcell hwz, Nat.le_trans hl hm⟩
  clear hA0 hval0
  refine (walk W a0 len0 cap0 w0 m0).mono fun e W' ⟨he, bel⟩ => ?_
  subst he
  exact ⟨_, rfl, _, _, _, [], _, [], hW', trodAll_mk1 (shut_bool Try.underlying4 _), (trodAll_cons_mk (Below.trod laidOut (by kernel_rfl) (of_decide_eq_true (by kernel_rfl)) k0 bel lt0) trodAll_mk0), rfl, bel.frame _, fun h => by cases h⟩

theorem own_facts : joinedFacts Try.prog 14 Try.f14 Rows.fnRowCycleSpec Rows.fnRowCycleRow = true :=
  facts_of 14 Try.f14 Rows.fnRowCycleSpec Rows.fnRowCycleRow (by as_aux_lemma => kernel_rfl) (by as_aux_lemma => kernel_rfl) (by as_aux_lemma => kernel_rfl) rfl rfl
    (by as_aux_lemma => kernel_rfl) (by as_aux_lemma => kernel_rfl) (by as_aux_lemma => kernel_rfl) (by as_aux_lemma => kernel_rfl)
    (by as_aux_lemma => kernel_rfl) (by as_aux_lemma => kernel_rfl) (by as_aux_lemma => kernel_rfl) (by as_aux_lemma => kernel_rfl) (by as_aux_lemma => kernel_rfl)
    (by as_aux_lemma => kernel_rfl) (by as_aux_lemma => kernel_rfl) (by as_aux_lemma => kernel_rfl) (by as_aux_lemma => kernel_rfl)
    rfl rfl rfl rfl (by as_aux_lemma => kernel_rfl) (by as_aux_lemma => kernel_rfl) (by as_aux_lemma => kernel_rfl) (by as_aux_lemma => kernel_rfl)
theorem over : Rows.fnRowCycleRow.holds Try.pinned (OpenSpec.ofChange Rows.fnRowCycleSpec) :=
  OpenClaim.holds_of_wide 14 Try.f14 rfl rfl rfl rfl rfl rfl rfl ⟨rfl, rfl, rfl, rfl, rfl⟩ rfl rfl rfl rfl rfl (by as_aux_lemma => kernel_rfl) Try.func14 own_facts
    (of_decide_eq_true (by as_aux_lemma => kernel_rfl)) (by unfold Func.isWrapper; first | (rw [if_pos (by decide +kernel)]; kernel_rfl) | (rw [if_neg (by decide +kernel)]; exact ⟨rfl, rfl⟩))
    (fun os started H enc _ => lifted os started H enc)

theorem proved : Rows.FnRowCycleSaid := over
#print axioms proved
end Go.Proofs.Ytggjheapjklhgaa.fnRowCycle
