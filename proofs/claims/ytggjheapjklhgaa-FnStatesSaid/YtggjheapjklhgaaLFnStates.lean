/- The law 'FnStates': for every input the program's function and the reference's agree, so the call returns true and leaves its arguments as they were; no condition. -/
import Derived.Test.YtggjheapjklhgaaRows
import Derived.Test.YtggjheapjklhgaaHead
import Derived.Test.YtggjheapjklhgaaStD
import Derived.Test.YtggjheapjklhgaaStE
import Derived.Test.YtggjheapjklhgaaRyA
import Derived.Test.YtggjheapjklhgaaRkA
import Derived.Test.YtggjheapjklhgaaRnkF
import Derived.Test.YtggjheapjklhgaaAlwW
import Derived.Test.YtggjheapjklhgaaAdrW
import Derived.WalkKit
import Derived.ProofKit
import Derived.OpenShut
import Derived.ShutString
import Derived.ChangeOld
import Derived.Below
namespace Go.Proofs.Ytggjheapjklhgaa.fnStates
open Go.ChangeShapes Go.WideShapes Go.ChangeAt Go.RowKit
set_option linter.unusedVariables false

theorem own : ownKnob Try.prog.godebug = none := by kernel_rfl
theorem laidOut : laidOutB Try.prog = true := by kernel_rfl

theorem row_act {G : Geo} {D : RkD} {C : Cmd} (h1 : rankOk G D = true) (h2 : cmdOk G C = true) (hk : C.k = 1) : rowOf (doR D C) C.b = C.r := by
  obtain ⟨_, hl, _⟩ := rankOk_iff.1 h1
  obtain ⟨_, _, hb, _⟩ := cmdOk_parts h2
  have hb := hb.1 (by rw [hk]; rfl)
  have hd : doR D C = ⟨D.banks.set C.b.toNat (true, C.r), D.p⟩ := by unfold doR; rw [if_pos (by rw [hk]; rfl)]
  have hx : (D.banks.set C.b.toNat (true, C.r))[C.b.toNat]? = some (true, C.r) := List.getElem?_set_self (by omega)
  have h := rowOf_in (D := ⟨D.banks.set C.b.toNat (true, C.r), D.p⟩) hx
  rw [hd]
  rw [show ((C.b.toNat : Nat) : Int) = C.b by omega] at h
  rw [h]; rfl
theorem row_pre {G : Geo} {D : RkD} {C : Cmd} (h1 : rankOk G D = true) (h2 : cmdOk G C = true) (hk : C.k = 4) : rowOf (doR D C) C.b = -1 := by
  obtain ⟨_, hl, _⟩ := rankOk_iff.1 h1
  obtain ⟨_, _, hb, _⟩ := cmdOk_parts h2
  have hb := hb.1 (by rw [hk]; rfl)
  have hd : doR D C = ⟨D.banks.set C.b.toNat (false, 0), D.p⟩ := by unfold doR; rw [if_neg (by rw [hk]; decide), if_pos (by rw [hk]; rfl)]
  have hx : (D.banks.set C.b.toNat (false, 0))[C.b.toNat]? = some (false, 0) := List.getElem?_set_self (by omega)
  have h := rowOf_in (D := ⟨D.banks.set C.b.toNat (false, 0), D.p⟩) hx
  rw [hd]
  rw [show ((C.b.toNat : Nat) : Int) = C.b by omega] at h
  rw [h]; rfl
theorem lit_rank (w : World) : RankR (w.alloc (.cells #[.bool false, .int .i64 0] 69)) ⟨some ⟨w.heap.size, 0, none⟩, 1, 1, [(false, 0)], 0⟩ := by
  refine ⟨fun i x hx => ?_, rfl⟩
  match i, hx with
  | 0, hx =>
    simp only [List.getElem?_cons_zero, Option.some.injEq] at hx
    subst hx
    refine ⟨w.heap.size, 0, rfl, by simp, fun j v hv => ?_⟩
    have h := box_at w [.bool false, .int .i64 0] 69 j
    simp only [Nat.zero_mul, Nat.zero_add]
    rw [show (⟨w.heap.size, j, none⟩ : Addr) = ⟨w.heap.size, j, none⟩ from rfl, h]
    exact hv
  | i + 1, hx => simp at hx

set_option maxHeartbeats 4000000 in
set_option maxRecDepth 100000 in
theorem walk (w : World) (a0 : Option Addr) (len0 cap0 : Nat) (w0 : BytesR w a0 len0) (m0 : len0 ≤ maxLen) :
    Calls Try.prog 5 #[.slice a0 len0 cap0] w fun e w' => e = .returned (.bool true) ∧ Below w.heap.size w w' := by
  by_cases hlen : 1048576 < len0
  · have hd : decide (1048576 < (len0 : Int)) = true := by simp; omega
    go_enter Try.func5, Try.ntmps5
    go_wp2_with fail
    refine (big_any _ _ _ _ m0).mono ?_
    rintro e w1 ⟨rfl, rfl⟩
    go_wp2_with fail
    go_ret
    exact ⟨rfl, Below.refl _ _⟩
  have hd : decide (1048576 < (len0 : Int)) = false := by simp; omega
  have HW := hid w0
  clear w0
  go_enter Try.func5, Try.ntmps5
  go_wp2_with fail
  refine (big_any _ _ _ _ m0).mono ?_
  rintro e w1 ⟨rfl, rfl⟩
  go_wp2_with fail
  refine (DrawRankAfter_any _ _ _ _ HW.out (by omega)).mono ?_
  rintro e w1 ⟨G, ⟨ra, rn, rc, rs, rp⟩, C, rfl, hR, hn8, _, B⟩
  have HRR := hid hR
  have HRN := hid (show rn ≤ 1048576 by dsimp only at hn8; omega)
  have HB := hid B
  clear hd B hR hn8 HW
  go_upto_region 4 with (fail)
  refine wp_world (fun w2 hw => ?_)
  have HG := hid (show BoxG w2 w1.heap.size G by rw [hw.out]; exact ((BoxG.new_ _ _ _ rfl).old (below_alloc _ _)).old (below_alloc _ _))
  have HK := hid (show BoxK2 w2 (w1.heap.size + 1) ⟨ra, rn, rc, rs, rp⟩ by rw [hw.out]; exact (BoxK2.new_ (w1.alloc (.cells #[.int .i64 G.a, .int .i64 G.b, .int .i64 G.r, .int .i64 G.c] 25)) 41 ⟨ra, rn, rc, rs, rp⟩ (by simp)).old (below_alloc _ _))
  have HC := hid (show BoxC w2 (w1.heap.size + 1 + 1) C by rw [hw.out]; exact BoxC.new_ _ _ _ (by simp))
  have B : Below w1.heap.size w1 w2 := by rw [hw.out]; exact below_alloc3 _ _ _ _
  have HRR := hid (HRR.out.old B)
  have HB := hid (below_step HB.out B (Nat.le_refl _))
  clear hw B
  generalize w1.heap.size = p3 at *
  obtain ⟨_, g0, g1, g2, g3⟩ := HG.out
  obtain ⟨_, k0, k1⟩ := HK.out
  obtain ⟨_, c0, c1, c2, c3⟩ := HC.out
  go_wp2_with fail
  clear g0 g1 g2 g3 k0 k1 c0 c1 c2 c3
  refine (implRankAfter_any G ⟨ra, rn, rc, rs, rp⟩ C _ HRR.out HRN.out).mono ?_
  rintro e w3 ⟨⟨xa, xn, xc, xs, xp⟩, rfl, O, hxd, B⟩
  have HXD := hid (show RankE.d ⟨xa, xn, xc, xs, xp⟩ = rankAfter G (RankE.d ⟨ra, rn, rc, rs, rp⟩) C from hxd)
  have HXR := hid (show RankR w3 ⟨xa, xn, xc, xs, xp⟩ from O.reads)
  have hx1 : (RankE.d ⟨xa, xn, xc, xs, xp⟩).banks.length = (rankAfter G (RankE.d ⟨ra, rn, rc, rs, rp⟩) C).banks.length := by rw [HXD.out]
  rw [rankAfter_len] at hx1
  have HXN := hid (show xn ≤ 1048576 by have h2 : xs.length = rs.length := hx1; have h3 : xn = xs.length := HXR.out.len; have h4 : rn = rs.length := HRR.out.len; have h5 := HRN.out; omega)
  clear hx1
  have HG := hid (HG.out.old B)
  have HK := hid (HK.out.old B)
  have HC := hid (HC.out.old B)
  have HRR := hid (HRR.out.old B)
  have HB := hid (below_step HB.out B (Nat.le_refl _))
  clear O hxd B
  go_upto_region 5 with (fail)
  refine wp_world (fun w4 hw => ?_)
  have HX := hid (show BoxK2 w4 w3.heap.size ⟨xa, xn, xc, xs, xp⟩ by rw [hw.out]; exact BoxK2.new_ _ _ ⟨xa, xn, xc, xs, xp⟩ rfl)
  have B : Below w3.heap.size w3 w4 := by rw [hw.out]; exact below_alloc _ _
  have HG := hid (HG.out.old B)
  have HK := hid (HK.out.old B)
  have HC := hid (HC.out.old B)
  have HRR := hid (HRR.out.old B)
  have HXR := hid (HXR.out.old B)
  have HB := hid (below_step HB.out B (Nat.le_refl _))
  clear hw B
  generalize w3.heap.size = p6 at *
  cases ha : allowed G (RankE.d ⟨ra, rn, rc, rs, rp⟩) C with
  | false =>
    have HAL := hid ha
    clear ha
    obtain ⟨_, g0, g1, g2, g3⟩ := HG.out
    obtain ⟨_, k0, k1⟩ := HK.out
    obtain ⟨_, c0, c1, c2, c3⟩ := HC.out
    go_wp2_with fail
    clear g0 g1 g2 g3 k0 k1 c0 c1 c2 c3
    refine (calls_bool HAL.out (implAllowed_any G ⟨ra, rn, rc, rs, rp⟩ C _ HRR.out HRN.out)).mono ?_
    rintro e w5 ⟨rfl, B⟩
    have HG := hid (HG.out.old B)
    have HK := hid (HK.out.old B)
    have HC := hid (HC.out.old B)
    have HRR := hid (HRR.out.old B)
    have HX := hid (HX.out.old B)
    have HXR := hid (HXR.out.old B)
    have HB := hid (below_step HB.out B (Nat.le_refl _))
    clear B
    obtain ⟨_, k0, k1⟩ := HK.out
    obtain ⟨_, x0, x1⟩ := HX.out
    go_wp2_with fail
    clear k0 k1 x0 x1
    refine (sameRank_same ⟨xa, xn, xc, xs, xp⟩ ⟨ra, rn, rc, rs, rp⟩ _ HXR.out HRR.out (by rw [HXD.out]; exact rankAfter_no HAL.out) HXN.out).mono ?_
    rintro e w6 ⟨rfl, B⟩
    have HB := hid (below_step HB.out B (Nat.le_refl _))
    clear B
    have HLR := hid (lit_rank w6)
    have HLB := hid (below_alloc w6 (.cells #[.bool false, .int .i64 0] 69))
    go_wp2_with fail
    refine (calls_bool (show rankOk ⟨1, 1, 2, 1⟩ (RankE.d ⟨some ⟨w6.heap.size, 0, none⟩, 1, 1, [(false, 0)], 0⟩) = true by show rankOk ⟨1, 1, 2, 1⟩ ⟨[(false, 0)], 0⟩ = true; decide) (implRankOk_any ⟨1, 1, 2, 1⟩ ⟨some ⟨w6.heap.size, 0, none⟩, 1, 1, [(false, 0)], 0⟩ _ HLR.out (by show 1 ≤ 1048576; decide))).mono ?_
    rintro e w7 ⟨rfl, B⟩
    have HB := hid (below_step (below_step HB.out HLB.out (Nat.le_refl _)) B (Nat.le_refl _))
    clear B
    go_wp2_with fail
    go_ret
    exact ⟨rfl, HB.out⟩
  | true =>
    have HAL := hid ha
    clear ha
    obtain ⟨_, g0, g1, g2, g3⟩ := HG.out
    obtain ⟨_, k0, k1⟩ := HK.out
    obtain ⟨_, c0, c1, c2, c3⟩ := HC.out
    go_wp2_with fail
    clear g0 g1 g2 g3 k0 k1 c0 c1 c2 c3
    refine (calls_bool HAL.out (implAllowed_any G ⟨ra, rn, rc, rs, rp⟩ C _ HRR.out HRN.out)).mono ?_
    rintro e w5 ⟨rfl, B⟩
    have HG := hid (HG.out.old B)
    have HK := hid (HK.out.old B)
    have HC := hid (HC.out.old B)
    have HRR := hid (HRR.out.old B)
    have HX := hid (HX.out.old B)
    have HXR := hid (HXR.out.old B)
    have HB := hid (below_step HB.out B (Nat.le_refl _))
    clear B
    obtain ⟨h1, h2, h3⟩ := allowed_parts HAL.out
    have HOK := hid h1
    have HCO := hid h2
    have hxx : RankE.d ⟨xa, xn, xc, xs, xp⟩ = doR (RankE.d ⟨ra, rn, rc, rs, rp⟩) C := by rw [HXD.out, rankAfter_yes HAL.out]
    have HOX := hid (show rankOk G (RankE.d ⟨xa, xn, xc, xs, xp⟩) = true by rw [hxx]; exact doR_ok h1 h2 h3)
    have HXX := hid hxx
    clear h1 h2 h3 hxx
    go_upto_region 9 with (fail)
    by_cases e1 : C.k = 1
    · have d1 : (C.k != 1) = false := by simp [e1]
      have d4 : (C.k != 4) = true := by simp [e1]
      have HROW := hid (show rowOf (RankE.d ⟨xa, xn, xc, xs, xp⟩) C.b = C.r by rw [HXX.out]; exact row_act HOK.out HCO.out e1)
      have hrr : (C.r == C.r) = true := by simp
      clear e1
      obtain ⟨_, g0, g1, g2, g3⟩ := HG.out
      obtain ⟨_, k0, k1⟩ := HK.out
      obtain ⟨_, c0, c1, c2, c3⟩ := HC.out
      obtain ⟨_, x0, x1⟩ := HX.out
      have l1 := HG.out.lt
      have l2 := HK.out.lt
      have l3 := HC.out.lt
      have l4 := HX.out.lt
      have hov := over_cell w5
      refine wp_region_over (by kernel_rfl) (by kernel_rfl) ?_
      iterate 3 (go_big_quiet_step ((go_at_call 38; exact calls_over (calls_bool HOK.out (implRankOk_any G ⟨ra, rn, rc, rs, rp⟩ _ (HRR.out.old (Over.below _)) HRN.out)))))
      repeat (go_big_quiet_step ((first | (go_at_call 38; exact calls_over (calls_bool HOX.out (implRankOk_any G ⟨xa, xn, xc, xs, xp⟩ _ (HXR.out.old (Over.below _)) HXN.out))) | (go_at_call 39; exact calls_over (calls_int HROW.out (implRowOf_any ⟨xa, xn, xc, xs, xp⟩ C.b _ (HXR.out.old (Over.below _)) HXN.out))))))
      refine wpQuiet_nil ?_
      intro w6 B
      have HB := hid (below_step HB.out B (Nat.le_refl _))
      clear B hov l1 l2 l3 l4
      clear g0 g1 g2 g3 k0 k1 c0 c1 c2 c3 x0 x1
      go_wp2_with fail
      go_ret
      exact ⟨rfl, HB.out⟩
    by_cases e4 : C.k = 4
    · have d1 : (C.k != 1) = true := by simp [e4]
      have d4 : (C.k != 4) = false := by simp [e4]
      have HROW := hid (show rowOf (RankE.d ⟨xa, xn, xc, xs, xp⟩) C.b = -1 by rw [HXX.out]; exact row_pre HOK.out HCO.out e4)
      clear e1 e4
      obtain ⟨_, g0, g1, g2, g3⟩ := HG.out
      obtain ⟨_, k0, k1⟩ := HK.out
      obtain ⟨_, c0, c1, c2, c3⟩ := HC.out
      obtain ⟨_, x0, x1⟩ := HX.out
      have l1 := HG.out.lt
      have l2 := HK.out.lt
      have l3 := HC.out.lt
      have l4 := HX.out.lt
      have hov := over_cell w5
      refine wp_region_over (by kernel_rfl) (by kernel_rfl) ?_
      iterate 3 (go_big_quiet_step ((go_at_call 38; exact calls_over (calls_bool HOK.out (implRankOk_any G ⟨ra, rn, rc, rs, rp⟩ _ (HRR.out.old (Over.below _)) HRN.out)))))
      repeat (go_big_quiet_step ((first | (go_at_call 38; exact calls_over (calls_bool HOX.out (implRankOk_any G ⟨xa, xn, xc, xs, xp⟩ _ (HXR.out.old (Over.below _)) HXN.out))) | (go_at_call 39; exact calls_over (calls_int HROW.out (implRowOf_any ⟨xa, xn, xc, xs, xp⟩ C.b _ (HXR.out.old (Over.below _)) HXN.out))))))
      refine wpQuiet_nil ?_
      intro w6 B
      have HB := hid (below_step HB.out B (Nat.le_refl _))
      clear B hov l1 l2 l3 l4
      clear g0 g1 g2 g3 k0 k1 c0 c1 c2 c3 x0 x1
      go_wp2_with fail
      go_ret
      exact ⟨rfl, HB.out⟩
    have d1 : (C.k != 1) = true := by simp [e1]
    have d4 : (C.k != 4) = true := by simp [e4]
    clear e1 e4
    obtain ⟨_, g0, g1, g2, g3⟩ := HG.out
    obtain ⟨_, k0, k1⟩ := HK.out
    obtain ⟨_, c0, c1, c2, c3⟩ := HC.out
    obtain ⟨_, x0, x1⟩ := HX.out
    have l1 := HG.out.lt
    have l2 := HK.out.lt
    have l3 := HC.out.lt
    have l4 := HX.out.lt
    have hov := over_cell w5
    refine wp_region_over (by kernel_rfl) (by kernel_rfl) ?_
    iterate 3 (go_big_quiet_step ((go_at_call 38; exact calls_over (calls_bool HOK.out (implRankOk_any G ⟨ra, rn, rc, rs, rp⟩ _ (HRR.out.old (Over.below _)) HRN.out)))))
    repeat (go_big_quiet_step ((first | (go_at_call 38; exact calls_over (calls_bool HOX.out (implRankOk_any G ⟨xa, xn, xc, xs, xp⟩ _ (HXR.out.old (Over.below _)) HXN.out))))))
    refine wpQuiet_nil ?_
    intro w6 B
    have HB := hid (below_step HB.out B (Nat.le_refl _))
    clear B hov l1 l2 l3 l4
    clear g0 g1 g2 g3 k0 k1 c0 c1 c2 c3 x0 x1
    go_wp2_with fail
    go_ret
    exact ⟨rfl, HB.out⟩

set_option maxRecDepth 100000 in
theorem lifted (os : Os) (started : os.Started) (H : Type) (enc : TypeId × Value → H) :
    ReturnsInHanded {} Try.checked os 5 .any (Rows.fnStatesSpec.pre6 enc Try.prog Try.f5 Rows.fnStatesRow.domain false) (Rows.fnStatesSpec.post enc Try.prog Try.f5 false true false false) := by
  refine returnsInHanded_of_change (C := Try.checked) own started (by kernel_rfl) Try.func5
    (ChangeSpec.witness6 (enc := enc) (C := Try.checked) false ⟨#[], #[.slice none 0 0], []⟩ 8 (by kernel_rfl) (by kernel_rfl) (by kernel_rfl) (by kernel_rfl)) ?_
  intro W base args ds gs before hval0 hW hcnd _
  have hval : ∀ (j : Nat) t v, Try.f5.params[j]? = some t → args[j]? = some v → Value.okWide Try.prog W .any base t v := hval0
  have hW' := hW
  obtain ⟨p, q, hA0, hV, rfl, hfz, hnd⟩ := hW
  have hA : DataW.TrodAll enc Try.prog W 0 (fun _ => true) true Try.f5.params.toList args.toList ds p := hA0
  rw [Try.params5] at hA hval
  obtain ⟨v0, vs0, d0, ds0, p0, q0, hargs, rfl, rfl, h0, r0⟩ := trodAll_cons hA
  obtain ⟨rfl, rfl, rfl⟩ := trodAll_nil r0
  obtain rfl : args = #[v0] := by cases args; simp_all
  obtain ⟨rfl, rfl⟩ := trodVars_none hV
  obtain ⟨a0, len0, cap0, rfl⟩ := okWide_slice Try.underlying22 (hval 0 22 v0 rfl rfl)
  have k0 := h0
  have lt0 : ∀ x ∈ p0, x.block < W.heap.size := by obtain ⟨m, hm⟩ := k0; exact DataW.trod_lt m _ _ _ hm
  obtain ⟨w0, m0⟩ : BytesR W a0 len0 ∧ len0 ≤ maxLen := by
    obtain ⟨fuel, hf⟩ := h0
    rcases open_ints Try.underlying22 Try.underlying5 (by kernel_rfl) hf with ⟨hcs, _⟩ | ⟨x, l, c, zs, hcs, _, hl, hm, hz, _, hcell, hwz⟩
    · simp [Value.cells] at hcs
      obtain ⟨rfl, rfl, rfl⟩ := hcs
      exact ⟨fun i hi => absurd hi (Nat.not_lt_zero _), Nat.zero_le _⟩
    · simp [Value.cells] at hcs
      obtain ⟨rfl, rfl, rfl⟩ := hcs
      exact ⟨BytesR.of_cells hl (by simpa using hz) hcell hwz, Nat.le_trans hl hm⟩
  clear hA0 hval0
  refine (walk W a0 len0 cap0 w0 m0).mono fun e W' ⟨he, bel⟩ => ?_
  subst he
  exact ⟨_, rfl, _, _, _, [], _, [], hW', trodAll_mk1 (shut_bool Try.underlying4 _), (trodAll_cons_mk (Below.trod laidOut (by kernel_rfl) (of_decide_eq_true (by kernel_rfl)) k0 bel lt0) trodAll_mk0), rfl, bel.frame _, fun h => by cases h⟩

theorem own_facts : joinedFacts Try.prog 5 Try.f5 Rows.fnStatesSpec Rows.fnStatesRow = true :=
  facts_of 5 Try.f5 Rows.fnStatesSpec Rows.fnStatesRow (by as_aux_lemma => kernel_rfl) (by as_aux_lemma => kernel_rfl) (by as_aux_lemma => kernel_rfl) rfl rfl
    (by as_aux_lemma => kernel_rfl) (by as_aux_lemma => kernel_rfl) (by as_aux_lemma => kernel_rfl) (by as_aux_lemma => kernel_rfl)
    (by as_aux_lemma => kernel_rfl) (by as_aux_lemma => kernel_rfl) (by as_aux_lemma => kernel_rfl) (by as_aux_lemma => kernel_rfl) (by as_aux_lemma => kernel_rfl)
    (by as_aux_lemma => kernel_rfl) (by as_aux_lemma => kernel_rfl) (by as_aux_lemma => kernel_rfl) (by as_aux_lemma => kernel_rfl)
    rfl rfl rfl rfl (by as_aux_lemma => kernel_rfl) (by as_aux_lemma => kernel_rfl) (by as_aux_lemma => kernel_rfl) (by as_aux_lemma => kernel_rfl)
theorem over : Rows.fnStatesRow.holds Try.pinned (OpenSpec.ofChange Rows.fnStatesSpec) :=
  OpenClaim.holds_of_wide 5 Try.f5 rfl rfl rfl rfl rfl rfl rfl ⟨rfl, rfl, rfl, rfl, rfl⟩ rfl rfl rfl rfl rfl (by as_aux_lemma => kernel_rfl) Try.func5 own_facts
    (of_decide_eq_true (by as_aux_lemma => kernel_rfl)) (by unfold Func.isWrapper; first | (rw [if_pos (by decide +kernel)]; kernel_rfl) | (rw [if_neg (by decide +kernel)]; exact ⟨rfl, rfl⟩))
    (fun os started H enc _ => lifted os started H enc)

theorem proved : Rows.FnStatesSaid := over
#print axioms proved
end Go.Proofs.Ytggjheapjklhgaa.fnStates
