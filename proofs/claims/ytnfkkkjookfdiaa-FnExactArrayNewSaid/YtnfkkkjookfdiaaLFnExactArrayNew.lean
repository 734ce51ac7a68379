/- The law 'FnExactArrayNew': for every input the program's function and the reference's agree, so the call returns true and leaves its arguments as they were; no condition. -/
import Derived.Test.YtnfkkkjookfdiaaRows
import Derived.Test.YtnfkkkjookfdiaaHead
import Derived.Test.YtnfkkkjookfdiaaNe2
import Derived.Test.YtnfkkkjookfdiaaAdrW
import Derived.Test.YtnfkkkjookfdiaaBox
import Derived.WalkKit
import Derived.ProofKit
import Derived.OpenShut
import Derived.ShutString
import Derived.ChangeOld
import Derived.Below
namespace Go.Proofs.Ytnfkkkjookfdiaa.fnExactArrayNew
open Go.ChangeShapes Go.WideShapes Go.ChangeAt Go.RowKit
set_option linter.unusedVariables false

theorem own : ownKnob Try.prog.godebug = none := by kernel_rfl
theorem laidOut : laidOutB Try.prog = true := by kernel_rfl


set_option maxRecDepth 100000 in
theorem walk (w : World) (G : Geo) :
    Calls Try.prog 8 #[.agg #[.int .i64 G.a, .int .i64 G.b, .int .i64 G.r, .int .i64 G.c]] w fun e w' => e = .returned (.bool true) ∧ Below w.heap.size w w' := by
  have HXG := hid (BoxG.new_ w 31 G rfl)
  have HB0 := hid (below_alloc w (.cells #[.int .i64 G.a, .int .i64 G.b, .int .i64 G.r, .int .i64 G.c] 31))
  go_enter Try.func8, Try.ntmps8
  go_upto_region 1 with (fail)
  refine wp_world (fun w1 hw => ?_)
  have HXG : Hid (BoxG w1 w.heap.size G) := by rw [hw.out]; exact HXG
  have HBw : Hid (Below w.heap.size w w1) := by rw [hw.out]; exact HB0
  clear hw HB0
  have HB := hid (Below.refl w1.heap.size w1)
  have HXGw := HXG
  obtain ⟨_, g0, g1, g2, g3⟩ := HXG.out
  go_wp2_with fail
  clear g0 g1 g2 g3
  refine (toGeometry_any G _).mono ?_
  rintro e w2 ⟨rfl, B⟩
  have HXG := hid (HXG.out.old B)
  have HB := hid (below_step HB.out B (Nat.le_refl _))
  have Sw2 : Hid (w1.heap.size ≤ w2.heap.size) := hid B.size
  clear B
  go_wp2_with fail
  refine (specArrayNew_any G _).mono ?_
  rintro e w3 ⟨Y, rfl, O, D, B⟩
  have HOn := hid O
  have HDY := hid D
  clear O D
  have HXG := hid (HXG.out.old B)
  have HB := hid (below_step HB.out B (Nat.le_refl _))
  have Sw3 : Hid (w2.heap.size ≤ w3.heap.size) := hid B.size
  clear B
  go_upto_region 2 with (fail)
  refine wp_world (fun w4 hw => ?_)
  have HXY : Hid (BoxV w4 w3.heap.size Y) := by rw [hw.out]; exact hid (BoxV.new _ _)
  have B : Below w3.heap.size w3 w4 := by rw [hw.out]; exact below_alloc _ _
  clear hw
  have HOY := hid (HOn.out.old B)
  clear HOn
  have GY : Hid (w3.heap.size < w4.heap.size) := hid HXY.out.lt
  have HXG := hid (HXG.out.old B)
  have HB := hid (below_step HB.out B (Nat.le_refl _))
  have Sw4 : Hid (w3.heap.size ≤ w4.heap.size) := hid B.size
  clear B
  obtain ⟨_, g0, g1, g2, g3⟩ := HXG.out
  go_wp2_with fail
  clear g0 g1 g2 g3
  refine (toGeometry_any G _).mono ?_
  rintro e w5 ⟨rfl, B⟩
  have HOY := hid (HOY.out.old B)
  have HXY := hid (HXY.out.old B)
  have HXG := hid (HXG.out.old B)
  have HB := hid (below_step HB.out B (Nat.le_refl _))
  have Sw5 : Hid (w4.heap.size ≤ w5.heap.size) := hid B.size
  clear B
  go_wp2_with fail
  refine (implArrayNew_any G _).mono ?_
  rintro e w6 ⟨Z, rfl, O, D, B⟩
  have HOn := hid O
  have HDZ := hid D
  clear O D
  have HOY := hid (HOY.out.old B)
  have HXY := hid (HXY.out.old B)
  have HXG := hid (HXG.out.old B)
  have HB := hid (below_step HB.out B (Nat.le_refl _))
  have Sw6 : Hid (w5.heap.size ≤ w6.heap.size) := hid B.size
  clear B
  go_upto_region 3 with (fail)
  refine wp_world (fun w7 hw => ?_)
  have HXZ : Hid (BoxV w7 w6.heap.size Z) := by rw [hw.out]; exact hid (BoxV.new _ _)
  have B : Below w6.heap.size w6 w7 := by rw [hw.out]; exact below_alloc _ _
  clear hw
  have HOZ := hid (HOn.out.old B)
  clear HOn
  have GZ : Hid (w6.heap.size < w7.heap.size) := hid HXZ.out.lt
  have HOY := hid (HOY.out.old B)
  have HXY := hid (HXY.out.old B)
  have HXG := hid (HXG.out.old B)
  have HB := hid (below_step HB.out B (Nat.le_refl _))
  have Sw7 : Hid (w6.heap.size ≤ w7.heap.size) := hid B.size
  clear B
  have HSMZ : Hid (Z.d.small) := hid (by have h := newA_small G; rw [← HDZ.out] at h; exact h)
  have cZL := HXZ.out.lt
  have cZ0 := HXZ.out.c0
  have cZ1 := HXZ.out.c1
  have cZ2 := HXZ.out.c2
  have cYL := HXY.out.lt
  have cY0 := HXY.out.c0
  have cY1 := HXY.out.c1
  have cY2 := HXY.out.c2
  go_wp2_with fail
  clear cZ0 cZ1 cZL cZ2 cY0 cY1 cYL cY2
  refine (eqArray_same Z Y _ HOZ.out.reads HOY.out.reads (by rw [HDZ.out, HDY.out]) HSMZ.out).mono ?_
  rintro e w8 ⟨rfl, B⟩
  have HOY := hid (HOY.out.old B)
  have HXY := hid (HXY.out.old B)
  have HOZ := hid (HOZ.out.old B)
  have HXZ := hid (HXZ.out.old B)
  have HXG := hid (HXG.out.old B)
  have HB := hid (below_step HB.out B (Nat.le_refl _))
  have Sw8 : Hid (w7.heap.size ≤ w8.heap.size) := hid B.size
  clear B
  go_upto_region 6 with (fail)
  have cZL := HXZ.out.lt
  have cZ0 := HXZ.out.c0
  have cZ1 := HXZ.out.c1
  have cZ2 := HXZ.out.c2
  go_wp2_with fail
  clear cZ0 cZ1 cZL cZ2
  refine (markArray_any Z _ _ 1 _ HOZ.out HSMZ.out (by decide) (by decide)).mono ?_
  rintro e w9 ⟨es', rfl, OM, DM, KM⟩
  have KM := hid KM
  have HOM := hid OM
  clear OM
  have HDM := hid DM
  clear DM
  have HOY2 := hid (HOY.out.keeps KM.out (fun b hb hS => by obtain ⟨hb0, hb1⟩ := hb; obtain ⟨h1, h2⟩ := HOZ.out.inA_in hS; have q0 := Sw2.out; have q1 := Sw3.out; have q2 := GY.out; have q3 := Sw4.out; have q4 := Sw5.out; have q5 := Sw6.out; have q6 := GZ.out; have q7 := Sw7.out; have q8 := Sw8.out; omega))
  have HXY2 := hid (HXY.out.keeps KM.out (fun hS => by obtain ⟨h1, h2⟩ := HOZ.out.inA_in hS; have q0 := Sw2.out; have q1 := Sw3.out; have q2 := GY.out; have q3 := Sw4.out; have q4 := Sw5.out; have q5 := Sw6.out; have q6 := GZ.out; have q7 := Sw7.out; have q8 := Sw8.out; omega))
  have HXZ2 := hid (HXZ.out.keeps KM.out (fun hS => by obtain ⟨h1, h2⟩ := HOZ.out.inA_in hS; have q0 := Sw2.out; have q1 := Sw3.out; have q2 := GY.out; have q3 := Sw4.out; have q4 := Sw5.out; have q5 := Sw6.out; have q6 := GZ.out; have q7 := Sw7.out; have q8 := Sw8.out; omega))
  have HB2 := hid (HB.out.trans (KM.out.below HB.out.size (fun q hq hS => by obtain ⟨h1, h2⟩ := HOZ.out.inA_in hS; have q0 := Sw2.out; have q1 := Sw3.out; have q2 := GY.out; have q3 := Sw4.out; have q4 := Sw5.out; have q5 := Sw6.out; have q6 := GZ.out; have q7 := Sw7.out; have q8 := Sw8.out; omega)))
  have HXG2 := hid ((HXGw.out).old HB2.out)
  have Sw9 : Hid (w8.heap.size ≤ w9.heap.size) := hid KM.out.size
  clear KM HOY HXY HOZ HXZ HB HXG
  have HOY := HOY2
  have HXY := HXY2
  have HXZ := HXZ2
  have HB := HB2
  have HXG := HXG2
  clear HOY2 HXY2 HXZ2 HB2 HXG2
  obtain ⟨km, hkm⟩ : ∃ km : Int, (1 : Int) + (Z.d.tot : Int) = km := ⟨_, rfl⟩
  have hk0 : (0 : Int) ≤ km := by omega
  rw [hkm]
  have HKM := hid hkm
  clear hkm
  have dk : decide (km < 0) = false := by simp; omega
  have dn : (km != km) = false := by simp
  go_upto_region 8 with (fail)
  have cZL := HXZ.out.lt
  have cZ0 := HXZ.out.c0
  have cZ1 := HXZ.out.c1
  have cZ2 := HXZ.out.c2
  go_wp2_with fail
  clear cZ0 cZ1 cZL cZ2
  refine (heldArray_any (⟨Z.s0, Z.s1, Z.s2, es', marks (1 + sumC Z.d.lens) Z.s1.n, marks (1 + sumC Z.d.lens + Z.s1.n) Z.s2.n⟩ : ArrE) Z.d 1 _ HOM.out.reads HDM.out HSMZ.out (by decide) (by decide)).mono ?_
  rintro e w10 ⟨rfl, B⟩
  rw [show (1 : Int) + (Z.d.tot : Int) = km from HKM.out]
  have HOM := hid (HOM.out.old B)
  have HXZ := hid (HXZ.out.old B)
  have HOY := hid (HOY.out.old B)
  have HXY := hid (HXY.out.old B)
  have HXG := hid (HXG.out.old B)
  have HB := hid (below_step HB.out B (Nat.le_refl _))
  have Sw10 : Hid (w9.heap.size ≤ w10.heap.size) := hid B.size
  clear B
  go_upto_region 13 with (fail)
  obtain ⟨_, g0, g1, g2, g3⟩ := HXG.out
  go_wp2_with fail
  clear g0 g1 g2 g3
  refine (toGeometry_any G _).mono ?_
  rintro e w11 ⟨rfl, B⟩
  have HOM := hid (HOM.out.old B)
  have HXZ := hid (HXZ.out.old B)
  have HOY := hid (HOY.out.old B)
  have HXY := hid (HXY.out.old B)
  have HXG := hid (HXG.out.old B)
  have HB := hid (below_step HB.out B (Nat.le_refl _))
  have Sw11 : Hid (w10.heap.size ≤ w11.heap.size) := hid B.size
  clear B
  go_wp2_with fail
  refine (implArrayNew_any G _).mono ?_
  rintro e w12 ⟨V, rfl, O, D, B⟩
  have HOn := hid O
  have HDV := hid D
  clear O D
  have HOM := hid (HOM.out.old B)
  have HXZ := hid (HXZ.out.old B)
  have HOY := hid (HOY.out.old B)
  have HXY := hid (HXY.out.old B)
  have HXG := hid (HXG.out.old B)
  have HB := hid (below_step HB.out B (Nat.le_refl _))
  have Sw12 : Hid (w11.heap.size ≤ w12.heap.size) := hid B.size
  clear B
  go_upto_region 14 with (fail)
  refine wp_world (fun w13 hw => ?_)
  have HXV : Hid (BoxV w13 w12.heap.size V) := by rw [hw.out]; exact hid (BoxV.new _ _)
  have B : Below w12.heap.size w12 w13 := by rw [hw.out]; exact below_alloc _ _
  clear hw
  have HOV := hid (HOn.out.old B)
  clear HOn
  have HOM := hid (HOM.out.old B)
  have HXZ := hid (HXZ.out.old B)
  have HOY := hid (HOY.out.old B)
  have HXY := hid (HXY.out.old B)
  have HXG := hid (HXG.out.old B)
  have HB := hid (below_step HB.out B (Nat.le_refl _))
  have Sw13 : Hid (w12.heap.size ≤ w13.heap.size) := hid B.size
  clear B
  have HSMV : Hid (V.d.small) := hid (by have h := newA_small G; rw [← HDV.out] at h; exact h)
  have cVL := HXV.out.lt
  have cV0 := HXV.out.c0
  have cV1 := HXV.out.c1
  have cV2 := HXV.out.c2
  have cYL := HXY.out.lt
  have cY0 := HXY.out.c0
  have cY1 := HXY.out.c1
  have cY2 := HXY.out.c2
  go_wp2_with fail
  clear cV0 cV1 cVL cV2 cY0 cY1 cYL cY2
  refine (eqArray_same V Y _ HOV.out.reads HOY.out.reads (by rw [HDV.out, HDY.out]) HSMV.out).mono ?_
  rintro e w14 ⟨rfl, B⟩
  have HOM := hid (HOM.out.old B)
  have HXZ := hid (HXZ.out.old B)
  have HOY := hid (HOY.out.old B)
  have HXY := hid (HXY.out.old B)
  have HOV := hid (HOV.out.old B)
  have HXV := hid (HXV.out.old B)
  have HXG := hid (HXG.out.old B)
  have HB := hid (below_step HB.out B (Nat.le_refl _))
  have Sw14 : Hid (w13.heap.size ≤ w14.heap.size) := hid B.size
  clear B
  go_upto_region 17 with (fail)
  have cZL := HXZ.out.lt
  have cZ0 := HXZ.out.c0
  have cZ1 := HXZ.out.c1
  have cZ2 := HXZ.out.c2
  go_wp2_with fail
  clear cZ0 cZ1 cZL cZ2
  refine (heldArray_any (⟨Z.s0, Z.s1, Z.s2, es', marks (1 + sumC Z.d.lens) Z.s1.n, marks (1 + sumC Z.d.lens + Z.s1.n) Z.s2.n⟩ : ArrE) Z.d 1 _ HOM.out.reads HDM.out HSMZ.out (by decide) (by decide)).mono ?_
  rintro e w15 ⟨rfl, B⟩
  rw [show (1 : Int) + (Z.d.tot : Int) = km from HKM.out]
  have HOM := hid (HOM.out.old B)
  have HXZ := hid (HXZ.out.old B)
  have HOY := hid (HOY.out.old B)
  have HXY := hid (HXY.out.old B)
  have HOV := hid (HOV.out.old B)
  have HXV := hid (HXV.out.old B)
  have HXG := hid (HXG.out.old B)
  have HB := hid (below_step HB.out B (Nat.le_refl _))
  have Sw15 : Hid (w14.heap.size ≤ w15.heap.size) := hid B.size
  clear B
  go_wp2_with fail
  go_ret
  exact ⟨rfl, below_step HBw.out HB.out (Nat.le_refl _)⟩

set_option maxRecDepth 100000 in
theorem lifted (os : Os) (started : os.Started) (H : Type) (enc : TypeId × Value → H) :
    ReturnsInHanded {} Try.checked os 8 .any (Rows.fnExactArrayNewSpec.pre6 enc Try.prog Try.f8 Rows.fnExactArrayNewRow.domain false) (Rows.fnExactArrayNewSpec.post enc Try.prog Try.f8 false true false false) := by
  refine returnsInHanded_of_change (C := Try.checked) own started (by kernel_rfl) Try.func8
    (ChangeSpec.witness6 (enc := enc) (C := Try.checked) false ⟨#[], #[.agg #[.int .i64 0, .int .i64 0, .int .i64 0, .int .i64 0]], []⟩ 8 (by kernel_rfl) (by kernel_rfl) (by kernel_rfl) (by kernel_rfl)) ?_
  intro W base args ds gs before hval0 hW hcnd _
  have hval : ∀ (j : Nat) t v, Try.f8.params[j]? = some t → args[j]? = some v → Value.okWide Try.prog W .any base t v := hval0
  have hW' := hW
  obtain ⟨p, q, hA0, hV, rfl, hfz, hnd⟩ := hW
  have hA : DataW.TrodAll enc Try.prog W 0 (fun _ => true) true Try.f8.params.toList args.toList ds p := hA0
  rw [Try.params8] at hA hval
  obtain ⟨v0, vs0, d0, ds0, p0, q0, hargs, rfl, rfl, h0, r0⟩ := trodAll_cons hA
  obtain ⟨rfl, rfl, rfl⟩ := trodAll_nil r0
  obtain rfl : args = #[v0] := by cases args; simp_all
  obtain ⟨rfl, rfl⟩ := trodVars_none hV
  have k0 := h0
  have lt0 : ∀ x ∈ p0, x.block < W.heap.size := by obtain ⟨m, hm⟩ := k0; exact DataW.trod_lt m _ _ _ hm
  obtain ⟨G, rfl⟩ := open_geo (hval 0 31 v0 rfl rfl) h0
  clear hA0 hval0
  refine (walk W G).mono fun e W' ⟨he, bel⟩ => ?_
  subst he
  exact ⟨_, rfl, _, _, _, [], _, [], hW', trodAll_mk1 (shut_bool Try.underlying4 _), (trodAll_cons_mk (Below.trod laidOut (by kernel_rfl) (of_decide_eq_true (by kernel_rfl)) k0 bel lt0) trodAll_mk0), rfl, bel.frame _, fun h => by cases h⟩

theorem own_facts : joinedFacts Try.prog 8 Try.f8 Rows.fnExactArrayNewSpec Rows.fnExactArrayNewRow = true :=
  facts_of 8 Try.f8 Rows.fnExactArrayNewSpec Rows.fnExactArrayNewRow (by as_aux_lemma => kernel_rfl) (by as_aux_lemma => kernel_rfl) (by as_aux_lemma => kernel_rfl) rfl rfl
    (by as_aux_lemma => kernel_rfl) (by as_aux_lemma => kernel_rfl) (by as_aux_lemma => kernel_rfl) (by as_aux_lemma => kernel_rfl)
    (by as_aux_lemma => kernel_rfl) (by as_aux_lemma => kernel_rfl) (by as_aux_lemma => kernel_rfl) (by as_aux_lemma => kernel_rfl) (by as_aux_lemma => kernel_rfl)
    (by as_aux_lemma => kernel_rfl) (by as_aux_lemma => kernel_rfl) (by as_aux_lemma => kernel_rfl) (by as_aux_lemma => kernel_rfl)
    rfl rfl rfl rfl (by as_aux_lemma => kernel_rfl) (by as_aux_lemma => kernel_rfl) (by as_aux_lemma => kernel_rfl) (by as_aux_lemma => kernel_rfl)
theorem over : Rows.fnExactArrayNewRow.holds Try.pinned (OpenSpec.ofChange Rows.fnExactArrayNewSpec) :=
  OpenClaim.holds_of_wide 8 Try.f8 rfl rfl rfl rfl rfl rfl rfl ⟨rfl, rfl, rfl, rfl, rfl⟩ rfl rfl rfl rfl rfl (by as_aux_lemma => kernel_rfl) Try.func8 own_facts
    (of_decide_eq_true (by as_aux_lemma => kernel_rfl)) (by unfold Func.isWrapper; first | (rw [if_pos (by decide +kernel)]; kernel_rfl) | (rw [if_neg (by decide +kernel)]; exact ⟨rfl, rfl⟩))
    (fun os started H enc _ => lifted os started H enc)

theorem proved : Rows.FnExactArrayNewSaid := over
#print axioms proved
end Go.Proofs.Ytnfkkkjookfdiaa.fnExactArrayNew
