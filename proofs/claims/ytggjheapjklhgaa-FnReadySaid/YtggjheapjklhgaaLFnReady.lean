/- The law 'FnReady': for every input the program's function and the reference's agree, so the call returns true and leaves its arguments as they were; no condition. -/
import Derived.Test.YtggjheapjklhgaaRows
import Derived.Test.YtggjheapjklhgaaHead
import Derived.Test.YtggjheapjklhgaaTrW
import Derived.Test.YtggjheapjklhgaaRtP
import Derived.Test.YtggjheapjklhgaaRtI
import Derived.Test.YtggjheapjklhgaaElI
import Derived.Test.YtggjheapjklhgaaRyO
import Derived.Test.YtggjheapjklhgaaTen
import Derived.Test.YtggjheapjklhgaaAlwW
import Derived.Test.YtggjheapjklhgaaAdrW
import Derived.WalkKit
import Derived.ProofKit
import Derived.OpenShut
import Derived.ShutString
import Derived.ChangeOld
import Derived.Below
namespace Go.Proofs.Ytggjheapjklhgaa.fnReady
open Go.ChangeShapes Go.WideShapes Go.ChangeAt Go.RowKit
set_option linter.unusedVariables false

theorem own : ownKnob Try.prog.godebug = none := by kernel_rfl
theorem laidOut : laidOutB Try.prog = true := by kernel_rfl


set_option maxHeartbeats 4000000 in
set_option maxRecDepth 100000 in
theorem walk (w : World) (a0 : Option Addr) (len0 cap0 : Nat) (w0 : BytesR w a0 len0) (m0 : len0 ≤ maxLen) :
    Calls Try.prog 3 #[.slice a0 len0 cap0] w fun e w' => e = .returned (.bool true) ∧ Below w.heap.size w w' := by
  by_cases hlen : 1048576 < len0
  · have hd : decide (1048576 < (len0 : Int)) = true := by simp; omega
    go_enter Try.func3, Try.ntmps3
    go_wp2_with fail
    refine (big_any _ _ _ _ m0).mono ?_
    rintro e w1 ⟨rfl, rfl⟩
    go_wp2_with fail
    go_ret
    exact ⟨rfl, Below.refl _ _⟩
  have hd : decide (1048576 < (len0 : Int)) = false := by simp; omega
  have HW := hid w0
  clear w0
  go_enter Try.func3, Try.ntmps3
  go_wp2_with fail
  refine (big_any _ _ _ _ m0).mono ?_
  rintro e w1 ⟨rfl, rfl⟩
  go_wp2_with fail
  refine (DrawTrace_any _ _ _ _ HW.out (by omega)).mono ?_
  rintro e w1 ⟨G, T, ⟨ea, en, ec, es⟩, rfl, hO, hl, ⟨D, hT⟩, B⟩
  have HTR := hid hT
  have HL := hid hl
  have HEN := hid (show en ≤ 1048576 ∧ en ≤ ec ∧ en = es.length from ⟨by have h1 : en = es.length := OwnF.length encE_len (by decide) hO; dsimp only at hl; omega, OwnF.le_cap hO, OwnF.length encE_len (by decide) hO⟩)
  have HE := hid (show EvsRd w1 ⟨ea, en, ec, es⟩ from hO.reads)
  have HB := hid B
  have HW := hid (HW.out.old B)
  dsimp only at HTR HL
  clear hd B hO hl hT
  have HT := hid (Blk.zeroT (w1.alloc (.cells #[.int .i64 G.a, .int .i64 G.b, .int .i64 G.r, .int .i64 G.c] 25)) 27)
  simp only [World.size_alloc] at HT
  have HTT := hid HT.out.there
  go_upto_region 4 with (refine wpList_store_tim2 (T := T) (by rfl) _ _ (by rfl) (by rfl) (by rfl) (by exact HTT.out) ?_)
  refine wp_world (fun w2 hw => ?_)
  have HG := hid (show BoxG w2 w1.heap.size G by rw [hw.out]; exact ((BoxG.new_ _ _ _ rfl).old (below_alloc _ _)).keeps (setCells_keeps (w1.heap.size + 1) (timV T) 0 _) (by omega))
  have HX := hid (BoxT.of_blk (show Blk w2 (w1.heap.size + 1) 27 (timV T) by rw [hw.out]; exact HT.out.tim T))
  have B : Below w1.heap.size w1 w2 := by rw [hw.out]; exact (below_alloc2 _ _ _).trans ((setCells_keeps (w1.heap.size + 1) (timV T) 0 _).below (by simp; omega) (fun k hk e => by omega))
  have HE := hid (EvsRd.old HE.out B)
  have HB := hid (below_step HB.out B (Nat.le_refl _))
  have HW := hid (HW.out.old B)
  clear hw B HT HTT
  generalize w1.heap.size = p3 at *
  go_wp2_with fail
  refine (DrawCommand_any _ _ _ _ HW.out (by omega)).mono ?_
  rintro e w3 ⟨G2, C, rfl, hco, B⟩
  have HG := hid (HG.out.old B)
  have HX := hid (HX.out.old B)
  have HE := hid (EvsRd.old HE.out B)
  have HB := hid (below_step HB.out B (Nat.le_refl _))
  have HW := hid (HW.out.old B)
  clear B HW
  go_upto_region 5 with (fail)
  refine wp_world (fun w4 hw => ?_)
  have HC := hid (show BoxC w4 (w3.heap.size + 1) C by rw [hw.out]; exact BoxC.new_ _ _ _ (by simp))
  have B : Below w3.heap.size w3 w4 := by rw [hw.out]; exact below_alloc2 _ _ _
  have HG := hid (HG.out.old B)
  have HX := hid (HX.out.old B)
  have HE := hid (EvsRd.old HE.out B)
  have HB := hid (below_step HB.out B (Nat.le_refl _))
  clear hw B
  generalize w3.heap.size = p6 at *
  obtain ⟨_, g0, g1, g2, g3⟩ := HG.out
  go_wp2_with fail
  clear g0 g1 g2 g3
  refine (implReadyOf_any G ⟨ea, en, ec, es⟩ _ HE.out HEN.out.1).mono ?_
  rintro e w5 ⟨⟨⟨a0', n0, c0'⟩, ⟨a1', n1, c1'⟩, last, acts⟩, rfl, O, hd, B⟩
  have HYD := hid (show RdyE.d ⟨⟨a0', n0, c0'⟩, ⟨a1', n1, c1'⟩, last, acts⟩ = readyOf G es from hd)
  have HYR := hid (show RdyR w5 ⟨⟨a0', n0, c0'⟩, ⟨a1', n1, c1'⟩, last, acts⟩ from O.reads)
  have HYS := hid (readyOf_small (Z := ⟨⟨a0', n0, c0'⟩, ⟨a1', n1, c1'⟩, last, acts⟩) hd.symm)
  have HG := hid (HG.out.old B)
  have HX := hid (HX.out.old B)
  have HE := hid (EvsRd.old HE.out B)
  have HB := hid (below_step HB.out B (Nat.le_refl _))
  have HC := hid (HC.out.old B)
  clear O hd B
  go_upto_region 6 with (fail)
  refine wp_world (fun w6 hw => ?_)
  have HY := hid (show BoxY w6 w5.heap.size ⟨⟨a0', n0, c0'⟩, ⟨a1', n1, c1'⟩, last, acts⟩ by rw [hw.out]; exact BoxY.new_ _ _ ⟨⟨a0', n0, c0'⟩, ⟨a1', n1, c1'⟩, last, acts⟩ rfl)
  have B : Below w5.heap.size w5 w6 := by rw [hw.out]; exact below_alloc _ _
  have HG := hid (HG.out.old B)
  have HX := hid (HX.out.old B)
  have HE := hid (EvsRd.old HE.out B)
  have HB := hid (below_step HB.out B (Nat.le_refl _))
  have HC := hid (HC.out.old B)
  have HYR := hid (HYR.out.old B)
  clear hw B
  generalize w5.heap.size = p8 at *
  obtain ⟨_, g0, g1, g2, g3⟩ := HG.out
  go_wp2_with fail
  clear g0 g1 g2 g3
  refine (specTraceEnd_any G ⟨ea, en, ec, es⟩ _ HE.out HEN.out.1).mono ?_
  rintro e w7 ⟨⟨ra, rn, rc, rs, rp⟩, rfl, O, hd, B⟩
  have HRD := hid (show RankE.d ⟨ra, rn, rc, rs, rp⟩ = D by rw [hd]; exact congrArg Prod.fst HTR.out.end_)
  have HRR := hid (show RankR w7 ⟨ra, rn, rc, rs, rp⟩ from O.reads)
  have HRN := hid (show rn ≤ 1048576 by have h1 := traceEnd_len G es; have h2 : rs.length ≤ 8 := by { have h3 : (RankE.d ⟨ra, rn, rc, rs, rp⟩).banks.length ≤ 8 := by rw [hd]; exact h1
                                                                                                      exact h3 }
                                        have h4 : rn = rs.length := HRR.out.len
                                        omega)
  have HG := hid (HG.out.old B)
  have HX := hid (HX.out.old B)
  have HE := hid (EvsRd.old HE.out B)
  have HB := hid (below_step HB.out B (Nat.le_refl _))
  have HC := hid (HC.out.old B)
  have HYR := hid (HYR.out.old B)
  have HY := hid (HY.out.old B)
  clear O hd B
  go_upto_region 7 with (fail)
  refine wp_world (fun w8 hw => ?_)
  have HK := hid (show BoxK2 w8 w7.heap.size ⟨ra, rn, rc, rs, rp⟩ by rw [hw.out]; exact BoxK2.new_ _ _ ⟨ra, rn, rc, rs, rp⟩ rfl)
  have B : Below w7.heap.size w7 w8 := by rw [hw.out]; exact below_alloc _ _
  have HG := hid (HG.out.old B)
  have HX := hid (HX.out.old B)
  have HE := hid (EvsRd.old HE.out B)
  have HB := hid (below_step HB.out B (Nat.le_refl _))
  have HC := hid (HC.out.old B)
  have HYR := hid (HYR.out.old B)
  have HY := hid (HY.out.old B)
  have HRR := hid (HRR.out.old B)
  clear hw B
  generalize w7.heap.size = p9 at *
  obtain ⟨_, g0, g1, g2, g3⟩ := HG.out
  obtain ⟨_, c0, c1, c2, c3⟩ := HC.out
  obtain ⟨_, k0, k1⟩ := HK.out
  go_wp2_with fail
  clear g0 g1 g2 g3 c0 c1 c2 c3 k0 k1
  refine (calls_boo2 (show allowed G (RankE.d ⟨ra, rn, rc, rs, rp⟩) C = allowed G D C by rw [HRD.out]) (specAllowed_any G ⟨ra, rn, rc, rs, rp⟩ C _ HRR.out HRN.out)).mono ?_
  rintro e w9 ⟨rfl, B⟩
  have HG := hid (HG.out.old B)
  have HX := hid (HX.out.old B)
  have HE := hid (EvsRd.old HE.out B)
  have HB := hid (below_step HB.out B (Nat.le_refl _))
  have HC := hid (HC.out.old B)
  have HYR := hid (HYR.out.old B)
  have HY := hid (HY.out.old B)
  have HRR := hid (HRR.out.old B)
  have HK := hid (HK.out.old B)
  clear B
  have HOK := hid (show readyOk G (RdyE.d ⟨⟨a0', n0, c0'⟩, ⟨a1', n1, c1'⟩, last, acts⟩) = true by rw [HYD.out]; exact HTR.out.ready)
  have HL' := hid (show es.length ≤ 1000 by have h := HL.out; omega)
  cases ha : allowed G D C with
  | false =>
    have HNX := hid (show earliestNext G T es C = -1 by rw [HTR.out.next HL'.out C, if_neg (by rw [ha]; decide)])
    clear ha
    obtain ⟨_, g0, g1, g2, g3⟩ := HG.out
    obtain ⟨_, y0, y1⟩ := HY.out
    go_wp2_with fail
    clear g0 g1 g2 g3 y0 y1
    refine (calls_boo2 HOK.out (implReadyOk_any G ⟨⟨a0', n0, c0'⟩, ⟨a1', n1, c1'⟩, last, acts⟩ _ HYR.out HYS.out)).mono ?_
    rintro e w10 ⟨rfl, B⟩
    have HG := hid (HG.out.old B)
    have HX := hid (HX.out.old B)
    have HE := hid (EvsRd.old HE.out B)
    have HB := hid (below_step HB.out B (Nat.le_refl _))
    have HC := hid (HC.out.old B)
    have HYR := hid (HYR.out.old B)
    have HY := hid (HY.out.old B)
    have HRR := hid (HRR.out.old B)
    have HK := hid (HK.out.old B)
    clear B
    obtain ⟨_, g0, g1, g2, g3⟩ := HG.out
    obtain ⟨_, c0, c1, c2, c3⟩ := HC.out
    go_wp2_with (refine wpList_load_timW HX.out _ (by rfl) (by rfl) (by rfl) ?_)
    clear g0 g1 g2 g3 c0 c1 c2 c3
    refine (calls_int HNX.out (implEarliestNext_any G T ⟨ea, en, ec, es⟩ C _ HE.out HEN.out.1 HEN.out.2.1)).mono ?_
    rintro e w11 ⟨rfl, B⟩
    have HG := hid (HG.out.old B)
    have HX := hid (HX.out.old B)
    have HE := hid (EvsRd.old HE.out B)
    have HB := hid (below_step HB.out B (Nat.le_refl _))
    have HC := hid (HC.out.old B)
    have HYR := hid (HYR.out.old B)
    have HY := hid (HY.out.old B)
    have HRR := hid (HRR.out.old B)
    have HK := hid (HK.out.old B)
    clear B
    go_wp2_with fail
    go_ret
    exact ⟨rfl, HB.out⟩
  | true =>
    obtain ⟨v, hv⟩ : ∃ v, earliestNext G T es C = v := ⟨_, rfl⟩
    have HNX := hid hv
    have HRA := hid (show readyAt G T (RdyE.d ⟨⟨a0', n0, c0'⟩, ⟨a1', n1, c1'⟩, last, acts⟩) C = v by rw [HYD.out, ← hv]; exact HTR.out.readyAt HL'.out ha)
    clear ha hv
    have hvv : (v == v) = true := by simp
    go_upto_region 9 with (fail)
    obtain ⟨_, g0, g1, g2, g3⟩ := HG.out
    obtain ⟨_, c0, c1, c2, c3⟩ := HC.out
    obtain ⟨_, y0, y1⟩ := HY.out
    have l1 := HG.out.lt
    have l2 := HC.out.lt
    have l3 := HY.out.lt
    have hov := over_cell w9
    refine wp_region_over (by kernel_rfl) (by kernel_rfl) ?_
    repeat (first | (refine wpQuiet_load_timW (by rintro _ ⟨t, rfl⟩; exact HX.out.old t.below) _ (by rfl) (by rfl) (by rfl) ?_; simp only [Act.put, List.setIfInBounds_toArray, List.set_cons_succ, List.set_cons_zero]) | go_big_quiet_step ((first | (go_at_call 22; exact calls_over (calls_boo2 HOK.out (implReadyOk_any G ⟨⟨a0', n0, c0'⟩, ⟨a1', n1, c1'⟩, last, acts⟩ _ (HYR.out.old (Over.below _)) HYS.out))) | (go_at_call 24; exact calls_over (calls_int HRA.out (implReadyAt_any G T ⟨⟨a0', n0, c0'⟩, ⟨a1', n1, c1'⟩, last, acts⟩ C _ (HYR.out.old (Over.below _)) HYS.out))) | (go_at_call 23; exact calls_over (calls_int HNX.out (implEarliestNext_any G T ⟨ea, en, ec, es⟩ C _ (EvsRd.old HE.out (Over.below _)) HEN.out.1 HEN.out.2.1))))))
    refine wpQuiet_nil ?_
    intro w10 B
    have HB := hid (below_step HB.out B (Nat.le_refl _))
    clear B hov l1 l2 l3
    clear g0 g1 g2 g3 c0 c1 c2 c3 y0 y1
    go_wp2_with fail
    go_ret
    exact ⟨rfl, HB.out⟩

set_option maxRecDepth 100000 in
theorem lifted (os : Os) (started : os.Started) (H : Type) (enc : TypeId × Value → H) :
    ReturnsInHanded {} Try.checked os 3 .any (Rows.fnReadySpec.pre6 enc Try.prog Try.f3 Rows.fnReadyRow.domain false) (Rows.fnReadySpec.post enc Try.prog Try.f3 false true false false) := by
  refine returnsInHanded_of_change (C := Try.checked) own started (by kernel_rfl) Try.func3
    (ChangeSpec.witness6 (enc := enc) (C := Try.checked) false ⟨#[], #[.slice none 0 0], []⟩ 8 (by kernel_rfl) (by kernel_rfl) (by kernel_rfl) (by kernel_rfl)) ?_
  intro W base args ds gs before hval0 hW hcnd _
  have hval : ∀ (j : Nat) t v, Try.f3.params[j]? = some t → args[j]? = some v → Value.okWide Try.prog W .any base t v := hval0
  have hW' := hW
  obtain ⟨p, q, hA0, hV, rfl, hfz, hnd⟩ := hW
  have hA : DataW.TrodAll enc Try.prog W 0 (fun _ => true) true Try.f3.params.toList args.toList ds p := hA0
  rw [Try.params3] at hA hval
  obtain ⟨v0, vs0, d0, ds0, p0, q0, hargs, rfl, rfl, h0, r0⟩ := trodAll_cons hA
  obtain ⟨rfl, rfl, rfl⟩ := trodAll_nil r0
  obtain rfl : args = #[v0] := by cases args; simp_all
  obtain ⟨rfl, rfl⟩ := trodVars_none hV
  obtain ⟨a0, len0, cap0, rfl⟩ := okWide_slice Try.underlying22 (hval 0 22 v0 rfl rfl)
  have k0 := h0
  have lt0 : ∀ x ∈ p0, x.block < W.heap.size := by obtain ⟨m, hm⟩ := k0; exact DataW.trod_lt m _ _ _ hm
  obtain ⟨w0, m0⟩ : BytesR W a0 len0 ∧ len0 ≤ maxLen := by
    obtain ⟨fuel, hf⟩ := h0
    rcases open_ints Try.underlying22 Try.underlying5 (by kernel_rfl) hf with ⟨hcs, _⟩ | ⟨x, l, c, zs, hcs, _, hl, hm, hz, _, hcell, hwz⟩
    · simp [Value.cells] at hcs
      obtain ⟨rfl, rfl, rfl⟩ := hcs
      exact ⟨fun i hi => absurd hi (Nat.not_lt_zero _), Nat.zero_le _⟩
    · simp [Value.cells] at hcs
      obtain ⟨rfl, rfl, rfl⟩ := hcs
      exact ⟨BytesR.of_cells hl (by simpa using hz) hcell hwz, Nat.le_trans hl hm⟩
  clear hA0 hval0
  refine (walk W a0 len0 cap0 w0 m0).mono fun e W' ⟨he, bel⟩ => ?_
  subst he
  exact ⟨_, rfl, _, _, _, [], _, [], hW', trodAll_mk1 (shut_bool Try.underlying4 _), (trodAll_cons_mk (Below.trod laidOut (by kernel_rfl) (of_decide_eq_true (by kernel_rfl)) k0 bel lt0) trodAll_mk0), rfl, bel.frame _, fun h => by cases h⟩

theorem own_facts : joinedFacts Try.prog 3 Try.f3 Rows.fnReadySpec Rows.fnReadyRow = true :=
  facts_of 3 Try.f3 Rows.fnReadySpec Rows.fnReadyRow (by as_aux_lemma => kernel_rfl) (by as_aux_lemma => kernel_rfl) (by as_aux_lemma => kernel_rfl) rfl rfl
    (by as_aux_lemma => kernel_rfl) (by as_aux_lemma => kernel_rfl) (by as_aux_lemma => kernel_rfl) (by as_aux_lemma => kernel_rfl)
    (by as_aux_lemma => kernel_rfl) (by as_aux_lemma => kernel_rfl) (by as_aux_lemma => kernel_rfl) (by as_aux_lemma => kernel_rfl) (by as_aux_lemma => kernel_rfl)
    (by as_aux_lemma => kernel_rfl) (by as_aux_lemma => kernel_rfl) (by as_aux_lemma => kernel_rfl) (by as_aux_lemma => kernel_rfl)
    rfl rfl rfl rfl (by as_aux_lemma => kernel_rfl) (by as_aux_lemma => kernel_rfl) (by as_aux_lemma => kernel_rfl) (by as_aux_lemma => kernel_rfl)
theorem over : Rows.fnReadyRow.holds Try.pinned (OpenSpec.ofChange Rows.fnReadySpec) :=
  OpenClaim.holds_of_wide 3 Try.f3 rfl rfl rfl rfl rfl rfl rfl ⟨rfl, rfl, rfl, rfl, rfl⟩ rfl rfl rfl rfl rfl (by as_aux_lemma => kernel_rfl) Try.func3 own_facts
    (of_decide_eq_true (by as_aux_lemma => kernel_rfl)) (by unfold Func.isWrapper; first | (rw [if_pos (by decide +kernel)]; kernel_rfl) | (rw [if_neg (by decide +kernel)]; exact ⟨rfl, rfl⟩))
    (fun os started H enc _ => lifted os started H enc)

theorem proved : Rows.FnReadySaid := over
#print axioms proved
end Go.Proofs.Ytggjheapjklhgaa.fnReady
