/- The law 'FnExactActTimes': for every input the program's function and the reference's agree, so the call returns true and leaves its arguments as they were; no condition. -/
import Derived.Test.YtdhfkhpdehgfaaaRows
import Derived.Test.YtdhfkhpdehgfaaaHead
import Derived.Test.YtdhfkhpdehgfaaaEvtF
import Derived.Test.YtdhfkhpdehgfaaaOpenE
import Derived.Test.YtdhfkhpdehgfaaaInv
import Derived.WalkKit
import Derived.ProofKit
import Derived.OpenShut
import Derived.ShutString
import Derived.ChangeOld
import Derived.Below
namespace Go.Proofs.Ytdhfkhpdehgfaaa.fnExactActTimes
open Go.ChangeShapes Go.WideShapes Go.ChangeAt Go.RowKit
set_option linter.unusedVariables false

theorem own : ownKnob Try.prog.godebug = none := by kernel_rfl
theorem laidOut : laidOutB Try.prog = true := by kernel_rfl

theorem small_res (E : EvsE) : (actsOf E.d).length ≤ E.es.length := by
  exact actsOf_len _

set_option maxRecDepth 100000 in
theorem walk (w : World) (E : EvsE) (hE : ArgEvs w E) :
    Calls Try.prog 8 #[.slice E.a E.n E.c] w fun e w' => e = .returned (.bool true) ∧ Below w.heap.size w w' := by
  by_cases hsz : (E.n : Int) ≤ 1048576
  · have HA := hid hE
    have hn : E.n ≤ 1048576 := by omega
    have HNM := hid hn
    have HSM := hid (show E.es.length ≤ 1048576 by rw [← HA.out.reads.len]; exact hn)
    have HT := hid (szT_yes hsz)
    have h0 : (0 : Int) ≤ 1048576 - E.n := by omega
    generalize hleft : (1048576 : Int) - E.n = left at h0 HT
    have hdl : decide (left < 0) = false := by simp; omega
    clear hE hleft hn
    go_enter Try.func8, Try.ntmps8
    go_wp2_with fail
    refine (szEventS_any E _ _ HA.out.max (by omega) (by omega)).mono ?_
    rintro e w1 ⟨rfl, B1⟩
    rw [HT.out]
    have HB := hid (below_step (Below.refl _ _) B1 (Nat.le_refl _))
    have HRw := hid (HA.out.reads.old HB.out)
    have hB1 := hid (Below.refl w1.heap.size w1)
    have HB1 := hB1
    clear hB1 B1
    go_upto_region 5 with (fail)
    have HR := hid (HRw.out.old HB1.out)
    go_wp2_with fail
    refine (toEventSE_any E _ (HR.out) HSM.out).mono ?_
    rintro e w2 ⟨A', rfl, O, D0, N0, B⟩
    have HB1 := hid (below_step HB1.out B (Nat.le_refl _))
    have Sw2 : Hid (w1.heap.size ≤ w2.heap.size) := hid B.size
    clear B
    have HOn := hid O
    have HDn := hid D0
    have HNn := hid N0
    clear O D0 N0
    go_wp2_with fail
    refine (specActTimes_any A' _ (HOn.out.reads) (by rw [HNn.out]; exact HNM.out)).mono ?_
    rintro e w3 ⟨Ya, Yn, Yc, rfl, O, B⟩
    have O : OwnS w3 w2.heap.size Ya Yn Yc (actsOf E.d) := by
      have h : OwnS w3 w2.heap.size Ya Yn Yc (actsOf A'.d) := O
      rw [show (actsOf A'.d) = actsOf E.d from congrArg (fun d => actsOf d) HDn.out] at h
      exact h
    have HB1 := hid (below_step HB1.out B (Nat.le_refl _))
    have Sw3 : Hid (w2.heap.size ≤ w3.heap.size) := hid B.size
    clear B
    have HOY := hid O
    have hiY := fun (b : Nat) (hb : blkS Ya Yn b) => O.lt hb
    have HIY : Hid (∀ b, blkS Ya Yn b → w2.heap.size ≤ b ∧ b < w3.heap.size) := hid hiY
    clear O hiY
    generalize hr : actsOf E.d = xs at HOY
    have HV := hid hr
    clear hr
    have HXL : Hid (xs.length ≤ 1048576) := hid (by rw [← HV.out]; exact Nat.le_trans (small_res E) HSM.out)
    go_upto_region 6 with (fail)
    have HR := hid (HRw.out.old HB1.out)
    go_wp2_with fail
    refine (toEventSE_any E _ (HR.out) HSM.out).mono ?_
    rintro e w4 ⟨X, rfl, O, D0, N0, B⟩
    have HOY := hid (HOY.out.old B)
    have HB1 := hid (below_step HB1.out B (Nat.le_refl _))
    have Sw4 : Hid (w3.heap.size ≤ w4.heap.size) := hid B.size
    clear B
    have HOX := hid O
    have HDX := hid D0
    have HNX := hid N0
    clear O D0 N0
    have HSMX := hid (show X.es.length ≤ 1048576 by rw [← HOX.out.reads.len, HNX.out]; exact HNM.out)
    go_upto_region 7 with (fail)
    go_upto_region 7 with (fail)
    have HR := hid (HRw.out.old HB1.out)
    go_wp2_with fail
    refine (implActTimes_any X _ (HOX.out.reads) (by rw [HNX.out]; exact HNM.out)).mono ?_
    rintro e w5 ⟨Za, Zn, Zc, rfl, O, B⟩
    have O : OwnS w5 w4.heap.size Za Zn Zc (actsOf E.d) := by
      have h : OwnS w5 w4.heap.size Za Zn Zc (actsOf X.d) := O
      rw [show (actsOf X.d) = actsOf E.d from congrArg (fun d => actsOf d) HDX.out] at h
      exact h
    have HOY := hid (HOY.out.old B)
    have HOX := hid (HOX.out.old B)
    have HB1 := hid (below_step HB1.out B (Nat.le_refl _))
    have Sw5 : Hid (w4.heap.size ≤ w5.heap.size) := hid B.size
    clear B
    have HOZ := hid O
    have hiZ := fun (b : Nat) (hb : blkS Za Zn b) => O.lt hb
    have HIZ : Hid (∀ b, blkS Za Zn b → w4.heap.size ≤ b ∧ b < w5.heap.size) := hid hiZ
    clear O hiZ
    rw [HV.out] at HOZ
    go_upto_region 8 with (fail)
    have HR := hid (HRw.out.old HB1.out)
    go_wp2_with fail
    refine (eqIntS_own Za Ya Zn Yn Zc Yc _ _ xs _ HOZ.out HOY.out HXL.out).mono ?_
    rintro e w6 ⟨rfl, q, B0⟩
    have B : Below w5.heap.size w5 w6 := by rw [B0]; exact below_ofDrewN _ _ _
    clear B0
    have HOY := hid (HOY.out.old B)
    have HOX := hid (HOX.out.old B)
    have HOZ := hid (HOZ.out.old B)
    have HB1 := hid (below_step HB1.out B (Nat.le_refl _))
    have Sw6 : Hid (w5.heap.size ≤ w6.heap.size) := hid B.size
    clear B
    go_upto_region 10 with (fail)
    have HR := hid (HRw.out.old HB1.out)
    go_wp2_with fail
    refine (toEventSE_any E _ (HR.out) HSM.out).mono ?_
    rintro e w7 ⟨A', rfl, O, D0, N0, B⟩
    have HOY := hid (HOY.out.old B)
    have HOX := hid (HOX.out.old B)
    have HOZ := hid (HOZ.out.old B)
    have HB1 := hid (below_step HB1.out B (Nat.le_refl _))
    have Sw7 : Hid (w6.heap.size ≤ w7.heap.size) := hid B.size
    clear B
    have HOn := hid O
    have HDn := hid D0
    clear O D0 N0
    go_wp2_with fail
    refine (eqEventSE_same X A' _ HOX.out.reads HOn.out.reads (by rw [HDX.out, HDn.out]) HSMX.out).mono ?_
    rintro e w8 ⟨rfl, B⟩
    have HOY := hid (HOY.out.old B)
    have HOX := hid (HOX.out.old B)
    have HOZ := hid (HOZ.out.old B)
    have HB1 := hid (below_step HB1.out B (Nat.le_refl _))
    have Sw8 : Hid (w7.heap.size ≤ w8.heap.size) := hid B.size
    clear B
    go_upto_region 13 with (fail)
    have HR := hid (HRw.out.old HB1.out)
    go_wp2_with fail
    refine (markEventS_any X _ _ 1 _ HOX.out HSMX.out (by decide) (by decide)).mono ?_
    rintro e w9 ⟨rfl, _, KM⟩
    have KM := hid KM
    have HOY2 := hid (HOY.out.keeps KM.out (fun b hb hS => by have h1 := HOX.out.in_ hS; have h2 := HIY.out b hb; have q0 := Sw2.out; have q1 := Sw3.out; have q2 := Sw4.out; have q3 := Sw5.out; have q4 := Sw6.out; have q5 := Sw7.out; have q6 := Sw8.out; omega))
    have HOZ2 := hid (HOZ.out.keeps KM.out (fun b hb hS => by have h1 := HOX.out.in_ hS; have h2 := HIZ.out b hb; have q0 := Sw2.out; have q1 := Sw3.out; have q2 := Sw4.out; have q3 := Sw5.out; have q4 := Sw6.out; have q5 := Sw7.out; have q6 := Sw8.out; omega))
    have HB1 := hid (HB1.out.trans (KM.out.below HB1.out.size (fun q hq hS => by have h1 := HOX.out.in_ hS; have q0 := Sw2.out; have q1 := Sw3.out; have q2 := Sw4.out; have q3 := Sw5.out; have q4 := Sw6.out; have q5 := Sw7.out; have q6 := Sw8.out; omega)))
    have Sw9 : Hid (w8.heap.size ≤ w9.heap.size) := hid KM.out.size
    clear KM HOX
    clear HOY
    have HOY := HOY2
    clear HOY2
    clear HOZ
    have HOZ := HOZ2
    clear HOZ2
    have hkm : (0 : Int) ≤ 1 + 5 * (X.n : Int) := by omega
    generalize (1 : Int) + 5 * (X.n : Int) = km at hkm
    have dkm : decide (km < 0) = false := by simp; omega
    go_upto_region 14 with (fail)
    have HR := hid (HRw.out.old HB1.out)
    go_wp2_with fail
    refine (eqIntS_own Za Ya Zn Yn Zc Yc _ _ xs _ HOZ.out HOY.out HXL.out).mono ?_
    rintro e w10 ⟨rfl, q, B0⟩
    have B : Below w9.heap.size w9 w10 := by rw [B0]; exact below_ofDrewN _ _ _
    clear B0
    have HOY := hid (HOY.out.old B)
    have HOZ := hid (HOZ.out.old B)
    have HB1 := hid (below_step HB1.out B (Nat.le_refl _))
    have Sw10 : Hid (w9.heap.size ≤ w10.heap.size) := hid B.size
    clear B
    go_upto_region 17 with (fail)
    have HR := hid (HRw.out.old HB1.out)
    have hZn : Zn ≤ 1048576 := by have h1 := HOZ.out.length; have h2 := HXL.out; omega
    go_wp2_with fail
    refine (markIntS_own _ _ _ _ _ xs _ HOZ.out hZn (by decide) (by decide)).mono ?_
    rintro e w11 ⟨rfl, OM, KM⟩
    have KM := hid KM
    have HOY2 := hid (HOY.out.keeps KM.out (fun b hb hS => by have h1 := HIZ.out b hS; have h2 := HIY.out b hb; have q0 := Sw2.out; have q1 := Sw3.out; have q2 := Sw4.out; have q3 := Sw5.out; have q4 := Sw6.out; have q5 := Sw7.out; have q6 := Sw8.out; have q7 := Sw9.out; have q8 := Sw10.out; omega))
    have HB1 := hid (HB1.out.trans (KM.out.below HB1.out.size (fun q hq hS => by have h1 := HIZ.out q hS; have q0 := Sw2.out; have q1 := Sw3.out; have q2 := Sw4.out; have q3 := Sw5.out; have q4 := Sw6.out; have q5 := Sw7.out; have q6 := Sw8.out; have q7 := Sw9.out; have q8 := Sw10.out; omega)))
    have Sw11 : Hid (w10.heap.size ≤ w11.heap.size) := hid KM.out.size
    clear KM HOY HOZ
    have HOY := HOY2
    have HOZ := hid OM
    clear HOY2 OM
    have hq0 : (0 : Int) ≤ 1 + (Zn : Int) := by omega
    have dq : decide ((1 : Int) + (Zn : Int) < 0) = false := by simp; omega
    have dne : ((1 : Int) + (Zn : Int) != (1 : Int) + (Zn : Int)) = false := by simp
    go_upto_region 19 with (fail)
    have HR := hid (HRw.out.old HB1.out)
    have hZn : Zn ≤ 1048576 := hZn
    go_wp2_with fail
    refine (heldIntS_own _ _ _ _ _ _ HOZ.out hZn (by decide) (by decide)).mono ?_
    rintro e w12 ⟨rfl, q, B0⟩
    have B : Below w11.heap.size w11 w12 := by rw [B0]; exact below_ofDrewN _ _ _
    clear B0
    have HOY := hid (HOY.out.old B)
    have HOZ := hid (HOZ.out.old B)
    have HB1 := hid (below_step HB1.out B (Nat.le_refl _))
    have Sw12 : Hid (w11.heap.size ≤ w12.heap.size) := hid B.size
    clear B
    go_upto_region 24 with (fail)
    have HR := hid (HRw.out.old HB1.out)
    go_wp2_with fail
    refine (toEventSE_any E _ (HR.out) HSM.out).mono ?_
    rintro e w13 ⟨A', rfl, O, D0, N0, B⟩
    have HOY := hid (HOY.out.old B)
    have HOZ := hid (HOZ.out.old B)
    have HB1 := hid (below_step HB1.out B (Nat.le_refl _))
    have Sw13 : Hid (w12.heap.size ≤ w13.heap.size) := hid B.size
    clear B
    have HOn := hid O
    have HDn := hid D0
    have HNn := hid N0
    clear O D0 N0
    go_wp2_with fail
    refine (implActTimes_any A' _ (HOn.out.reads) (by rw [HNn.out]; exact HNM.out)).mono ?_
    rintro e w14 ⟨Va, Vn, Vc, rfl, O, B⟩
    have O : OwnS w14 w13.heap.size Va Vn Vc (actsOf E.d) := by
      have h : OwnS w14 w13.heap.size Va Vn Vc (actsOf A'.d) := O
      rw [show (actsOf A'.d) = actsOf E.d from congrArg (fun d => actsOf d) HDn.out] at h
      exact h
    have HOY := hid (HOY.out.old B)
    have HOZ := hid (HOZ.out.old B)
    have HB1 := hid (below_step HB1.out B (Nat.le_refl _))
    have Sw14 : Hid (w13.heap.size ≤ w14.heap.size) := hid B.size
    clear B
    have HOV := hid O
    have hiV := fun (b : Nat) (hb : blkS Va Vn b) => O.lt hb
    have HIV : Hid (∀ b, blkS Va Vn b → w13.heap.size ≤ b ∧ b < w14.heap.size) := hid hiV
    clear O hiV
    rw [HV.out] at HOV
    go_upto_region 25 with (fail)
    have HR := hid (HRw.out.old HB1.out)
    go_wp2_with fail
    refine (eqIntS_own Va Ya Vn Yn Vc Yc _ _ xs _ HOV.out HOY.out HXL.out).mono ?_
    rintro e w15 ⟨rfl, q, B0⟩
    have B : Below w14.heap.size w14 w15 := by rw [B0]; exact below_ofDrewN _ _ _
    clear B0
    have HOY := hid (HOY.out.old B)
    have HOZ := hid (HOZ.out.old B)
    have HOV := hid (HOV.out.old B)
    have HB1 := hid (below_step HB1.out B (Nat.le_refl _))
    have Sw15 : Hid (w14.heap.size ≤ w15.heap.size) := hid B.size
    clear B
    go_upto_region 28 with (fail)
    have HR := hid (HRw.out.old HB1.out)
    have hZn : Zn ≤ 1048576 := hZn
    go_wp2_with fail
    refine (heldIntS_own _ _ _ _ _ _ HOZ.out hZn (by decide) (by decide)).mono ?_
    rintro e w16 ⟨rfl, q, B0⟩
    have B : Below w15.heap.size w15 w16 := by rw [B0]; exact below_ofDrewN _ _ _
    clear B0
    have HOY := hid (HOY.out.old B)
    have HOZ := hid (HOZ.out.old B)
    have HOV := hid (HOV.out.old B)
    have HB1 := hid (below_step HB1.out B (Nat.le_refl _))
    have Sw16 : Hid (w15.heap.size ≤ w16.heap.size) := hid B.size
    clear B
    go_wp2_with fail
    go_ret
    exact ⟨rfl, below_step HB.out HB1.out (Nat.le_refl _)⟩
  · have HA := hid hE
    have HT := hid (szT_no (t := E.n) (left := 1048576) (by omega))
    clear hE
    go_enter Try.func8, Try.ntmps8
    go_wp2_with fail
    refine (szEventS_any E _ _ HA.out.max (by omega) (by omega)).mono ?_
    rintro e w1 ⟨rfl, B1⟩
    rw [HT.out]
    go_wp2_with fail
    go_ret
    exact ⟨rfl, below_step (Below.refl _ _) B1 (Nat.le_refl _)⟩

set_option maxRecDepth 100000 in
theorem lifted (os : Os) (started : os.Started) (H : Type) (enc : TypeId × Value → H) :
    ReturnsInHanded {} Try.checked os 8 .any (Rows.fnExactActTimesSpec.pre6 enc Try.prog Try.f8 Rows.fnExactActTimesRow.domain false) (Rows.fnExactActTimesSpec.post enc Try.prog Try.f8 false true false false) := by
  refine returnsInHanded_of_change (C := Try.checked) own started (by kernel_rfl) Try.func8
    (ChangeSpec.witness6 (enc := enc) (C := Try.checked) false ⟨#[], #[.slice none 0 0], []⟩ 8 (by kernel_rfl) (by kernel_rfl) (by kernel_rfl) (by kernel_rfl)) ?_
  intro W base args ds gs before hval0 hW hcnd _
  have hval : ∀ (j : Nat) t v, Try.f8.params[j]? = some t → args[j]? = some v → Value.okWide Try.prog W .any base t v := hval0
  have hW' := hW
  obtain ⟨p, q, hA0, hV, rfl, hfz, hnd⟩ := hW
  have hA : DataW.TrodAll enc Try.prog W 0 (fun _ => true) true Try.f8.params.toList args.toList ds p := hA0
  rw [Try.params8] at hA hval
  obtain ⟨v0, vs0, d0, ds0, p0, q0, hargs, rfl, rfl, h0, r0⟩ := trodAll_cons hA
  obtain ⟨rfl, rfl, rfl⟩ := trodAll_nil r0
  obtain rfl : args = #[v0] := by cases args; simp_all
  obtain ⟨rfl, rfl⟩ := trodVars_none hV
  have k0 := h0
  have lt0 : ∀ x ∈ p0, x.block < W.heap.size := by obtain ⟨m, hm⟩ := k0; exact DataW.trod_lt m _ _ _ hm
  obtain ⟨E, rfl, hArgE⟩ := open_events (hval 0 57 v0 rfl rfl) h0
  clear hA0 hval0
  refine (walk W E hArgE).mono fun e W' ⟨he, bel⟩ => ?_
  subst he
  exact ⟨_, rfl, _, _, _, [], _, [], hW', trodAll_mk1 (shut_bool Try.underlying4 _), (trodAll_cons_mk (Below.trod laidOut (by kernel_rfl) (of_decide_eq_true (by kernel_rfl)) k0 bel lt0) trodAll_mk0), rfl, bel.frame _, fun h => by cases h⟩

theorem own_facts : joinedFacts Try.prog 8 Try.f8 Rows.fnExactActTimesSpec Rows.fnExactActTimesRow = true :=
  facts_of 8 Try.f8 Rows.fnExactActTimesSpec Rows.fnExactActTimesRow (by as_aux_lemma => kernel_rfl) (by as_aux_lemma => kernel_rfl) (by as_aux_lemma => kernel_rfl) rfl rfl
    (by as_aux_lemma => kernel_rfl) (by as_aux_lemma => kernel_rfl) (by as_aux_lemma => kernel_rfl) (by as_aux_lemma => kernel_rfl)
    (by as_aux_lemma => kernel_rfl) (by as_aux_lemma => kernel_rfl) (by as_aux_lemma => kernel_rfl) (by as_aux_lemma => kernel_rfl) (by as_aux_lemma => kernel_rfl)
    (by as_aux_lemma => kernel_rfl) (by as_aux_lemma => kernel_rfl) (by as_aux_lemma => kernel_rfl) (by as_aux_lemma => kernel_rfl)
    rfl rfl rfl rfl (by as_aux_lemma => kernel_rfl) (by as_aux_lemma => kernel_rfl) (by as_aux_lemma => kernel_rfl) (by as_aux_lemma => kernel_rfl)
theorem over : Rows.fnExactActTimesRow.holds Try.pinned (OpenSpec.ofChange Rows.fnExactActTimesSpec) :=
  OpenClaim.holds_of_wide 8 Try.f8 rfl rfl rfl rfl rfl rfl rfl ⟨rfl, rfl, rfl, rfl, rfl⟩ rfl rfl rfl rfl rfl (by as_aux_lemma => kernel_rfl) Try.func8 own_facts
    (of_decide_eq_true (by as_aux_lemma => kernel_rfl)) (by unfold Func.isWrapper; first | (rw [if_pos (by decide +kernel)]; kernel_rfl) | (rw [if_neg (by decide +kernel)]; exact ⟨rfl, rfl⟩))
    (fun os started H enc _ => lifted os started H enc)

theorem proved : Rows.FnExactActTimesSaid := over
#print axioms proved
end Go.Proofs.Ytdhfkhpdehgfaaa.fnExactActTimes
