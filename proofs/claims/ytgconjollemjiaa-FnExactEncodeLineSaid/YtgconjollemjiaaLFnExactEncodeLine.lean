/- The law 'FnExactEncodeLine': for every input the program's function and the reference's agree, so the call returns true and leaves its arguments as they were; no condition. -/
import Derived.Test.YtgconjollemjiaaRows
import Derived.Test.YtgconjollemjiaaHead
import Derived.Test.YtgconjollemjiaaLineW
import Derived.Test.YtgconjollemjiaaIntS
import Derived.WalkKit
import Derived.ProofKit
import Derived.OpenShut
import Derived.ShutString
import Derived.ChangeOld
import Derived.Below
namespace Go.Proofs.Ytgconjollemjiaa.fnExactEncodeLine
open Go.ChangeShapes Go.WideShapes Go.ChangeAt Go.RowKit
set_option linter.unusedVariables false

theorem own : ownKnob Try.prog.godebug = none := by kernel_rfl
theorem laidOut : laidOutB Try.prog = true := by kernel_rfl


theorem walk (w : World) (a0 : Int) (w0 : (Lit.int .i64 a0).wf = true) :
    Calls Try.prog 21 #[.int .i64 a0] w fun e w' => e = .returned (.bool true) ∧ Below w.heap.size w w' := by
  have b := Below.refl w.heap.size w
  have hbd := length_lineR a0
  go_enter Try.func21, Try.ntmps21
  go_wp2_with fail
  refine (specEncodeLine_any _ _).mono ?_
  rintro e w1 ⟨t0, n0, d0, rfl, G0, B⟩
  have b := below_step b B (Nat.le_refl _)
  clear B
  go_wp2_with fail
  refine (implEncodeLine_any _ _).mono ?_
  rintro e w2 ⟨t1, n1, d1, rfl, G1, B⟩
  have D0 : ∀ k, blkS t0 n0 k → ¬ blkS t1 n1 k := fun k h h' => by have := (G0.lt h).2; have := (G1.lt h').1; omega
  have L1 : ∀ k, k < w.heap.size → ¬ blkS t1 n1 k := fun k hk h => by have := (G1.lt h).1; have := b.size; omega
  have G0 := G0.old B
  have b := below_step b B (Nat.le_refl _)
  clear B
  have hn0 := G0.length
  have hn1 := G1.length
  have hnn : n0 ≤ 1048576 := by omega
  have hnn1 : n1 ≤ 1048576 := by omega
  have HN0 := hid hn0
  have HN1 := hid hn1
  clear hn0 hn1
  go_wp2_with fail
  refine (eqIntS_own _ _ _ _ _ _ _ _ _ _ G1 G0 (by omega)).mono ?_
  rintro e w3 ⟨rfl, q1, rfl⟩
  have G0 := G0.drewN q1
  have G1 := G1.drewN q1
  have b := below_drewN b q1
  generalize w2.drewN q1 = w3 at *
  go_wp2_with fail
  refine (markIntS_own _ _ _ _ _ _ _ G1 (by omega) (by omega) (by omega)).mono ?_
  rintro e w4 ⟨rfl, M1, K⟩
  have G0 := G0.keeps K D0
  have b := b.trans (K.below b.size L1)
  clear K G1
  go_wp2_with fail
  refine (heldIntS_own _ _ _ _ _ _ M1 (by omega) (by omega) (by omega)).mono ?_
  rintro e w5 ⟨rfl, q2, rfl⟩
  have G0 := G0.drewN q2
  have M1 := M1.drewN q2
  have b := below_drewN b q2
  generalize w4.drewN q2 = w5 at *
  go_wp2_with fail
  refine (implEncodeLine_any _ _).mono ?_
  rintro e w6 ⟨t2, n2, d2, rfl, G2, B⟩
  have G0 := G0.old B
  have M1 := M1.old B
  have b := below_step b B (Nat.le_refl _)
  clear B
  go_wp2_with fail
  refine (eqIntS_own _ _ _ _ _ _ _ _ _ _ G2 G0 (by omega)).mono ?_
  rintro e w7 ⟨rfl, q3, rfl⟩
  have G0 := G0.drewN q3
  have M1 := M1.drewN q3
  have G2 := G2.drewN q3
  have b := below_drewN b q3
  generalize w6.drewN q3 = w7 at *
  go_wp2_with fail
  refine (heldIntS_own _ _ _ _ _ _ M1 (by omega) (by omega) (by omega)).mono ?_
  rintro e w8 ⟨rfl, q4, rfl⟩
  have G0 := G0.drewN q4
  have M1 := M1.drewN q4
  have G2 := G2.drewN q4
  have b := below_drewN b q4
  generalize w7.drewN q4 = w8 at *
  go_wp2_with fail
  go_ret
  exact ⟨rfl, b⟩

set_option maxRecDepth 100000 in
theorem lifted (os : Os) (started : os.Started) (H : Type) (enc : TypeId × Value → H) :
    ReturnsInHanded {} Try.checked os 21 .any (Rows.fnExactEncodeLineSpec.pre6 enc Try.prog Try.f21 Rows.fnExactEncodeLineRow.domain false) (Rows.fnExactEncodeLineSpec.post enc Try.prog Try.f21 false true false false) := by
  refine returnsInHanded_of_change (C := Try.checked) own started (by kernel_rfl) Try.func21
    (ChangeSpec.witness6 (enc := enc) (C := Try.checked) false ⟨#[], #[.int .i64 0], []⟩ 8 (by kernel_rfl) (by kernel_rfl) (by kernel_rfl) (by kernel_rfl)) ?_
  intro W base args ds gs before hval0 hW hcnd _
  have hval : ∀ (j : Nat) t v, Try.f21.params[j]? = some t → args[j]? = some v → Value.okWide Try.prog W .any base t v := hval0
  have hW' := hW
  obtain ⟨p, q, hA0, hV, rfl, hfz, hnd⟩ := hW
  have hA : DataW.TrodAll enc Try.prog W 0 (fun _ => true) true Try.f21.params.toList args.toList ds p := hA0
  rw [Try.params21] at hA hval
  obtain ⟨v0, vs0, d0, ds0, p0, q0, hargs, rfl, rfl, h0, r0⟩ := trodAll_cons hA
  obtain ⟨rfl, rfl, rfl⟩ := trodAll_nil r0
  obtain rfl : args = #[v0] := by cases args; simp_all
  obtain ⟨rfl, rfl⟩ := trodVars_none hV
  obtain ⟨a0, rfl, rfl, rfl, w0⟩ := open_int Try.underlying3 (hval 0 3 v0 rfl rfl) h0
  clear hA0 hval0
  simp only [List.append_nil] at hW'
  refine (walk W a0 w0).mono fun e W' ⟨he, bel⟩ => ?_
  subst he
  exact ⟨_, rfl, _, _, _, [], [], [], hW', trodAll_mk1 (shut_bool Try.underlying4 _), (trodAll_cons_mk (shut_int Try.underlying3 w0) trodAll_mk0), rfl, bel.frame _, fun h => by cases h⟩

theorem own_facts : joinedFacts Try.prog 21 Try.f21 Rows.fnExactEncodeLineSpec Rows.fnExactEncodeLineRow = true :=
  facts_of 21 Try.f21 Rows.fnExactEncodeLineSpec Rows.fnExactEncodeLineRow (by as_aux_lemma => kernel_rfl) (by as_aux_lemma => kernel_rfl) (by as_aux_lemma => kernel_rfl) rfl rfl
    (by as_aux_lemma => kernel_rfl) (by as_aux_lemma => kernel_rfl) (by as_aux_lemma => kernel_rfl) (by as_aux_lemma => kernel_rfl)
    (by as_aux_lemma => kernel_rfl) (by as_aux_lemma => kernel_rfl) (by as_aux_lemma => kernel_rfl) (by as_aux_lemma => kernel_rfl) (by as_aux_lemma => kernel_rfl)
    (by as_aux_lemma => kernel_rfl) (by as_aux_lemma => kernel_rfl) (by as_aux_lemma => kernel_rfl) (by as_aux_lemma => kernel_rfl)
    rfl rfl rfl rfl (by as_aux_lemma => kernel_rfl) (by as_aux_lemma => kernel_rfl) (by as_aux_lemma => kernel_rfl) (by as_aux_lemma => kernel_rfl)
theorem over : Rows.fnExactEncodeLineRow.holds Try.pinned (OpenSpec.ofChange Rows.fnExactEncodeLineSpec) :=
  OpenClaim.holds_of_wide 21 Try.f21 rfl rfl rfl rfl rfl rfl rfl ⟨rfl, rfl, rfl, rfl, rfl⟩ rfl rfl rfl rfl rfl (by as_aux_lemma => kernel_rfl) Try.func21 own_facts
    (of_decide_eq_true (by as_aux_lemma => kernel_rfl)) (by unfold Func.isWrapper; first | (rw [if_pos (by decide +kernel)]; kernel_rfl) | (rw [if_neg (by decide +kernel)]; exact ⟨rfl, rfl⟩))
    (fun os started H enc _ => lifted os started H enc)

theorem proved : Rows.FnExactEncodeLineSaid := over
#print axioms proved
end Go.Proofs.Ytgconjollemjiaa.fnExactEncodeLine
