/- The law 'FnExactSymbolsOfWord': for every input the program's function and the reference's agree, so the call returns true and leaves its arguments as they were; no condition. -/
import Derived.Test.YtlmjnfpijdeaaaaRows
import Derived.Test.YtlmjnfpijdeaaaaSymW
import Derived.Test.YtlmjnfpijdeaaaaIntS
import Derived.WalkKit
import Derived.ProofKit
import Derived.OpenShut
import Derived.ShutString
import Derived.ChangeOld
import Derived.Below
namespace Go.Proofs.Ytlmjnfpijdeaaaa.fnExactSymbolsOfWord
open Go.ChangeShapes Go.WideShapes Go.ChangeAt Go.RowKit
set_option linter.unusedVariables false

theorem own : ownKnob Try.prog.godebug = none := by kernel_rfl
theorem laidOut : laidOutB Try.prog = true := by kernel_rfl


theorem walk (w : World) (a0 : Int) (w0 : (Lit.int .i64 a0).wf = true) :
    Calls Try.prog 6 #[.int .i64 a0] w fun e w' => e = .returned (.bool true) ∧ Below w.heap.size w w' := by
  have hle := length_symW a0
  go_enter Try.func6, Try.ntmps6
  go_wp2_with fail
  refine (specSymbolsOfWord_any _ _).mono ?_
  rintro e w1 ⟨s0, n0, c0, rfl, R0, B1⟩
  go_wp2_with fail
  refine (implSymbolsOfWord_any _ _).mono ?_
  rintro e w2 ⟨s1, n1, c1, rfl, R1, B2⟩
  have D : ∀ b, blkS s0 n0 b → ¬ blkS s1 n1 b := fun b h h' => by have := (R0.lt h).2; have := (R1.lt h').1; omega
  have R0 := R0.old B2
  have hn1 : n1 ≤ 1048576 := by have := R1.length; omega
  go_wp2_with fail
  refine (eqIntS_own _ _ _ _ _ _ _ _ _ _ R1 R0 (by omega)).mono ?_
  rintro e w3 ⟨rfl, q1, rfl⟩
  go_wp2_with fail
  refine (markIntS_own _ _ _ _ _ _ _ (R1.drewN q1) (by omega) (by omega) (by omega)).mono ?_
  rintro e w3 ⟨rfl, R2, K3⟩
  have R0 := (R0.drewN q1).keeps K3 D
  have b3 := (B1.trans (B2.mono B1.size)).trans ((below_ofDrewN _ _ q1).trans (K3.below (by have := B1.size; have := B2.size; simp; omega) (fun k hk h => by have := (R1.lt h).1; have := B1.size; omega)))
  go_wp2_with fail
  refine (heldIntS_own _ _ _ _ _ _ R2 (by omega) (by omega) (by omega)).mono ?_
  rintro e w4 ⟨rfl, q2, rfl⟩
  go_wp2_with fail
  refine (implSymbolsOfWord_any _ _).mono ?_
  rintro e w4 ⟨s2, n2, c2, rfl, R3, B4⟩
  have R0 := (R0.drewN q2).old B4
  have R2 := (R2.drewN q2).old B4
  have b4 := (below_drewN b3 q2).trans (B4.mono b3.size)
  go_wp2_with fail
  refine (eqIntS_own _ _ _ _ _ _ _ _ _ _ R3 R0 (by omega)).mono ?_
  rintro e w5 ⟨rfl, q3, rfl⟩
  go_wp2_with fail
  refine (heldIntS_own _ _ _ _ _ _ (R2.drewN q3) (by omega) (by omega) (by omega)).mono ?_
  rintro e w5 ⟨rfl, q4, rfl⟩
  go_wp2_with fail
  go_ret
  exact ⟨rfl, below_drewN b4 _⟩

set_option maxRecDepth 100000 in
theorem lifted (os : Os) (started : os.Started) (H : Type) (enc : TypeId × Value → H) :
    ReturnsInHanded {} Try.checked os 6 .any (Rows.fnExactSymbolsOfWordSpec.pre6 enc Try.prog Try.f6 Rows.fnExactSymbolsOfWordRow.domain false) (Rows.fnExactSymbolsOfWordSpec.post enc Try.prog Try.f6 false true false false) := by
  refine returnsInHanded_of_change (C := Try.checked) own started (by kernel_rfl) Try.func6
    (ChangeSpec.witness6 (enc := enc) (C := Try.checked) false ⟨#[], #[.int .i64 0], []⟩ 8 (by kernel_rfl) (by kernel_rfl) (by kernel_rfl) (by kernel_rfl)) ?_
  intro W base args ds gs before hval0 hW hcnd _
  have hval : ∀ (j : Nat) t v, Try.f6.params[j]? = some t → args[j]? = some v → Value.okWide Try.prog W .any base t v := hval0
  have hW' := hW
  obtain ⟨p, q, hA0, hV, rfl, hfz, hnd⟩ := hW
  have hA : DataW.TrodAll enc Try.prog W 0 (fun _ => true) true Try.f6.params.toList args.toList ds p := hA0
  rw [Try.params6] at hA hval
  obtain ⟨v0, vs0, d0, ds0, p0, q0, hargs, rfl, rfl, h0, r0⟩ := trodAll_cons hA
  obtain ⟨rfl, rfl, rfl⟩ := trodAll_nil r0
  obtain rfl : args = #[v0] := by cases args; simp_all
  obtain ⟨rfl, rfl⟩ := trodVars_none hV
  obtain ⟨a0, rfl, rfl, rfl, w0⟩ := open_int Try.underlying3 (hval 0 3 v0 rfl rfl) h0
  clear hA0 hval0
  simp only [List.append_nil] at hW'
  refine (walk W a0 w0).mono fun e W' ⟨he, bel⟩ => ?_
  subst he
  exact ⟨_, rfl, _, _, _, [], [], [], hW', trodAll_mk1 (shut_bool Try.underlying4 _), (trodAll_cons_mk (shut_int Try.underlying3 w0) trodAll_mk0), rfl, bel.frame _, fun h => by cases h⟩

theorem over : Rows.fnExactSymbolsOfWordRow.holds Try.pinned (OpenSpec.ofChange Rows.fnExactSymbolsOfWordSpec) :=
  OpenClaim.holds_of_wide 6 Try.f6 rfl rfl rfl rfl rfl rfl rfl ⟨rfl, rfl, rfl, rfl, rfl⟩ rfl rfl rfl rfl rfl (by kernel_rfl) Try.func6 (by kernel_rfl)
    (of_decide_eq_true (by kernel_rfl)) (by unfold Func.isWrapper; first | (rw [if_pos (by decide +kernel)]; kernel_rfl) | (rw [if_neg (by decide +kernel)]; exact ⟨rfl, rfl⟩))
    (fun os started H enc _ => lifted os started H enc)

theorem proved : Rows.FnExactSymbolsOfWordSaid := over
#print axioms proved
end Go.Proofs.Ytlmjnfpijdeaaaa.fnExactSymbolsOfWord
