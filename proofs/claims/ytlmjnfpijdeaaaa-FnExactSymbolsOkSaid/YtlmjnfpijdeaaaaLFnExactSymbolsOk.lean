/- The law 'FnExactSymbolsOk': for every input the program's function and the reference's agree, so the call returns true and leaves its arguments as they were; no condition. -/
import Derived.Test.YtlmjnfpijdeaaaaRows
import Derived.Test.YtlmjnfpijdeaaaaSymW
import Derived.Test.YtlmjnfpijdeaaaaIntS
import Derived.WalkKit
import Derived.ProofKit
import Derived.OpenShut
import Derived.ShutString
import Derived.ChangeOld
import Derived.Below
namespace Go.Proofs.Ytlmjnfpijdeaaaa.fnExactSymbolsOk
open Go.ChangeShapes Go.WideShapes Go.ChangeAt Go.RowKit
set_option linter.unusedVariables false

theorem own : ownKnob Try.prog.godebug = none := by kernel_rfl
theorem laidOut : laidOutB Try.prog = true := by kernel_rfl


theorem walk (w : World) (a0 : Option Addr) (len0 cap0 : Nat) (z0 : List Int) (w0 : ArgInts w a0 len0 cap0 z0) (a1 : Int) (w1 : (Lit.int .i64 a1).wf = true) :
    Calls Try.prog 5 #[.slice a0 len0 cap0, .int .i64 a1] w fun e w' => e = .returned (.bool true) ∧ Below w.heap.size w w' := by
  by_cases hlen : 1048576 < len0
  · go_enter Try.func5, Try.ntmps5
    go_wp2_with fail
    go_ret
    exact ⟨rfl, Below.refl _ _⟩
  · generalize hxs : z0.take len0 = xs at w0
    have hl := w0.length
    have hr := w0.reads
    rw [hxs] at hl hr
    have hlen' : (len0 : Int) ≤ 1048576 := by omega
    clear w0 hxs
    have HL := hid hl
    have HR := hid hr
    clear hl hr
    go_enter Try.func5, Try.ntmps5
    go_wp2_with fail
    refine (toIntS_own _ _ _ _ _ HR.out HL.out (by have := HL.out; omega)).mono ?_
    rintro e w1 ⟨s0, c0, rfl, R0, B1⟩
    go_wp2_with fail
    refine (specSymbolsOk_any _ _ _ _ _ _ R0.reads R0.length (by have := HL.out; omega)).mono ?_
    rintro e w2 ⟨rfl, q1, rfl⟩
    go_wp2_with fail
    have HR1 := (HR.out.old B1).drewN q1
    refine (toIntS_own _ _ _ _ _ HR1 HL.out (by have := HL.out; omega)).mono ?_
    rintro e w3 ⟨s1, c1, rfl, R1, B2⟩
    go_wp2_with fail
    refine (implSymbolsOk_any _ _ _ _ _ _ R1.reads R1.length (by have := HL.out; omega)).mono ?_
    rintro e w4 ⟨rfl, q2, rfl⟩
    have hbb : (symOk xs a1 != symOk xs a1) = false := by simp
    go_wp2_with fail
    have HR2 := (HR1.old B2).drewN q2
    refine (toIntS_own _ _ _ _ _ HR2 HL.out (by have := HL.out; omega)).mono ?_
    rintro e w5 ⟨s2, c2, rfl, R2, B3⟩
    go_wp2_with fail
    refine (eqIntS_own _ _ _ _ _ _ _ _ _ _ ((R1.drewN q2).old B3) R2 (by have := HL.out; omega)).mono ?_
    rintro e w6 ⟨rfl, q3, rfl⟩
    go_wp2_with fail
    go_ret
    have b2 := below_step (below_drewN B1 q1) B2 (Nat.le_refl _)
    have b3 := below_step (below_drewN b2 q2) B3 (Nat.le_refl _)
    exact ⟨rfl, below_drewN b3 _⟩

set_option maxRecDepth 100000 in
theorem lifted (os : Os) (started : os.Started) (H : Type) (enc : TypeId × Value → H) :
    ReturnsInHanded {} Try.checked os 5 .any (Rows.fnExactSymbolsOkSpec.pre6 enc Try.prog Try.f5 Rows.fnExactSymbolsOkRow.domain false) (Rows.fnExactSymbolsOkSpec.post enc Try.prog Try.f5 false true false false) := by
  refine returnsInHanded_of_change (C := Try.checked) own started (by kernel_rfl) Try.func5
    (ChangeSpec.witness6 (enc := enc) (C := Try.checked) false ⟨#[], #[.slice none 0 0, .int .i64 0], []⟩ 8 (by kernel_rfl) (by kernel_rfl) (by kernel_rfl) (by kernel_rfl)) ?_
  intro W base args ds gs before hval0 hW hcnd _
  have hval : ∀ (j : Nat) t v, Try.f5.params[j]? = some t → args[j]? = some v → Value.okWide Try.prog W .any base t v := hval0
  have hW' := hW
  obtain ⟨p, q, hA0, hV, rfl, hfz, hnd⟩ := hW
  have hA : DataW.TrodAll enc Try.prog W 0 (fun _ => true) true Try.f5.params.toList args.toList ds p := hA0
  rw [Try.params5] at hA hval
  obtain ⟨v0, vs0, d0, ds0, p0, q0, hargs, rfl, rfl, h0, r0⟩ := trodAll_cons hA
  obtain ⟨v1, vs1, d1, ds1, p1, q1, rfl, rfl, rfl, h1, r1⟩ := trodAll_cons r0
  obtain ⟨rfl, rfl, rfl⟩ := trodAll_nil r1
  obtain rfl : args = #[v0, v1] := by cases args; simp_all
  obtain ⟨rfl, rfl⟩ := trodVars_none hV
  obtain ⟨a0, len0, cap0, rfl⟩ := okWide_slice Try.underlying24 (hval 0 24 v0 rfl rfl)
  have k0 := h0
  have lt0 : ∀ x ∈ p0, x.block < W.heap.size := by obtain ⟨m, hm⟩ := k0; exact DataW.trod_lt m _ _ _ hm
  obtain ⟨z0, w0⟩ : ∃ zs, ArgInts W a0 len0 cap0 zs := by
    obtain ⟨fuel, hf⟩ := h0
    rcases open_ints Try.underlying24 Try.underlying3 (by kernel_rfl) hf with ⟨hcs, _⟩ | ⟨x, l, c, zs, hcs, _, hl, hm, hz, _, hcell, hwz⟩
    · simp [Value.cells] at hcs
      obtain ⟨rfl, rfl, rfl⟩ := hcs
      exact ⟨[], ArgInts.nil _⟩
    · simp [Value.cells] at hcs
      obtain ⟨rfl, rfl, rfl⟩ := hcs
      exact ⟨zs, ArgInts.some hl hm (by simpa using hz) hcell hwz⟩
  obtain ⟨a1, rfl, rfl, rfl, w1⟩ := open_int Try.underlying3 (hval 1 3 v1 rfl rfl) h1
  clear hA0 hval0
  refine (walk W a0 len0 cap0 z0 w0 a1 w1).mono fun e W' ⟨he, bel⟩ => ?_
  subst he
  exact ⟨_, rfl, _, _, _, [], _, [], hW', trodAll_mk1 (shut_bool Try.underlying4 _), (trodAll_cons_mk (Below.trod laidOut (by kernel_rfl) (of_decide_eq_true (by kernel_rfl)) k0 bel lt0) (trodAll_cons_mk (shut_int Try.underlying3 w1) trodAll_mk0)), rfl, bel.frame _, fun h => by cases h⟩

theorem over : Rows.fnExactSymbolsOkRow.holds Try.pinned (OpenSpec.ofChange Rows.fnExactSymbolsOkSpec) :=
  OpenClaim.holds_of_wide 5 Try.f5 rfl rfl rfl rfl rfl rfl rfl ⟨rfl, rfl, rfl, rfl, rfl⟩ rfl rfl rfl rfl rfl (by kernel_rfl) Try.func5 (by kernel_rfl)
    (of_decide_eq_true (by kernel_rfl)) (by unfold Func.isWrapper; first | (rw [if_pos (by decide +kernel)]; kernel_rfl) | (rw [if_neg (by decide +kernel)]; exact ⟨rfl, rfl⟩))
    (fun os started H enc _ => lifted os started H enc)

theorem proved : Rows.FnExactSymbolsOkSaid := over
#print axioms proved
end Go.Proofs.Ytlmjnfpijdeaaaa.fnExactSymbolsOk
