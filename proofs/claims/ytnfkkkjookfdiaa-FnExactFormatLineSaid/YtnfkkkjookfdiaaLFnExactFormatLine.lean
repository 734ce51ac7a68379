/- The law 'FnExactFormatLine': for every input the program's function and the reference's agree, so the call returns true and leaves its arguments as they were; no condition. -/
import Derived.Test.YtnfkkkjookfdiaaRows
import Derived.Test.YtnfkkkjookfdiaaHead
import Derived.Test.YtnfkkkjookfdiaaFmtW
import Derived.Test.YtnfkkkjookfdiaaIntS
import Derived.WalkKit
import Derived.ProofKit
import Derived.OpenShut
import Derived.ShutString
import Derived.ChangeOld
import Derived.Below
namespace Go.Proofs.Ytnfkkkjookfdiaa.fnExactFormatLine
open Go.ChangeShapes Go.WideShapes Go.ChangeAt Go.RowKit
set_option linter.unusedVariables false

theorem own : ownKnob Try.prog.godebug = none := by kernel_rfl
theorem laidOut : laidOutB Try.prog = true := by kernel_rfl


set_option maxRecDepth 100000 in
theorem walk (w : World) (a0 : Option Addr) (len0 cap0 : Nat) (z0 : List Int) (w0 : ArgInts w a0 len0 cap0 z0) :
    Calls Try.prog 3 #[.slice a0 len0 cap0] w fun e w' => e = .returned (.bool true) ∧ Below w.heap.size w w' := by
  have b := Below.refl w.heap.size w
  by_cases hlen : 1048576 < len0
  · go_enter Try.func3, Try.ntmps3
    go_wp2_with fail
    go_ret
    exact ⟨rfl, b⟩
  · generalize hxs : z0.take len0 = xs at w0
    have hl := w0.length
    have HR := w0.reads
    rw [hxs] at hl HR
    have hlen' : (len0 : Int) ≤ 1048576 := by omega
    clear w0 hxs
    have HL := hid hl
    clear hl
    go_enter Try.func3, Try.ntmps3
    go_wp2_with fail
    refine (toIntS_own _ _ _ _ _ HR HL.out (by have := HL.out; omega)).mono ?_
    rintro e w1 ⟨s0, c0, rfl, R0, B⟩
    have HR := HR.old B
    have b := below_step b B (Nat.le_refl _)
    clear B
    go_wp2_with fail
    refine (specFormatLine_any _ _ _ _ _ R0.reads R0.length (by have := HL.out; omega)).mono ?_
    rintro e w2 ⟨rfl, B⟩
    have HR := HR.old B
    have R0 := R0.old B
    have b := below_step b B (Nat.le_refl _)
    clear B
    go_wp2_with fail
    refine (toIntS_own _ _ _ _ _ HR HL.out (by have := HL.out; omega)).mono ?_
    rintro e w3 ⟨s1, c1, rfl, R1, B⟩
    have HR := HR.old B
    have R0 := R0.old B
    have b := below_step b B (Nat.le_refl _)
    clear B
    go_wp2_with fail
    refine (implFormatLine_any _ _ _ _ _ R1.reads R1.length (by have := HL.out; omega)).mono ?_
    rintro e w4 ⟨rfl, q1, rfl⟩
    have HR := HR.drewN q1
    have R0 := R0.drewN q1
    have R1 := R1.drewN q1
    have b := below_drewN b q1
    generalize w3.drewN q1 = w4 at *
    go_wp2_with fail
    refine (toIntS_own _ _ _ _ _ HR HL.out (by have := HL.out; omega)).mono ?_
    rintro e w5 ⟨s2, c2, rfl, R2, B⟩
    have HR := HR.old B
    have R0 := R0.old B
    have R1 := R1.old B
    have b := below_step b B (Nat.le_refl _)
    clear B
    go_wp2_with fail
    refine (eqIntS_own _ _ _ _ _ _ _ _ _ _ R1 R2 (by have := HL.out; omega)).mono ?_
    rintro e w6 ⟨rfl, q2, rfl⟩
    have HR := HR.drewN q2
    have R0 := R0.drewN q2
    have R1 := R1.drewN q2
    have R2 := R2.drewN q2
    have b := below_drewN b q2
    generalize w5.drewN q2 = w6 at *
    go_wp2_with fail
    go_ret
    exact ⟨rfl, b⟩

set_option maxRecDepth 100000 in
theorem lifted (os : Os) (started : os.Started) (H : Type) (enc : TypeId × Value → H) :
    ReturnsInHanded {} Try.checked os 3 .any (Rows.fnExactFormatLineSpec.pre6 enc Try.prog Try.f3 Rows.fnExactFormatLineRow.domain false) (Rows.fnExactFormatLineSpec.post enc Try.prog Try.f3 false true false false) := by
  refine returnsInHanded_of_change (C := Try.checked) own started (by kernel_rfl) Try.func3
    (ChangeSpec.witness6 (enc := enc) (C := Try.checked) false ⟨#[], #[.slice none 0 0], []⟩ 8 (by kernel_rfl) (by kernel_rfl) (by kernel_rfl) (by kernel_rfl)) ?_
  intro W base args ds gs before hval0 hW hcnd _
  have hval : ∀ (j : Nat) t v, Try.f3.params[j]? = some t → args[j]? = some v → Value.okWide Try.prog W .any base t v := hval0
  have hW' := hW
  obtain ⟨p, q, hA0, hV, rfl, hfz, hnd⟩ := hW
  have hA : DataW.TrodAll enc Try.prog W 0 (fun _ => true) true Try.f3.params.toList args.toList ds p := hA0
  rw [Try.params3] at hA hval
  obtain ⟨v0, vs0, d0, ds0, p0, q0, hargs, rfl, rfl, h0, r0⟩ := trodAll_cons hA
  obtain ⟨rfl, rfl, rfl⟩ := trodAll_nil r0
  obtain rfl : args = #[v0] := by cases args; simp_all
  obtain ⟨rfl, rfl⟩ := trodVars_none hV
  obtain ⟨a0, len0, cap0, rfl⟩ := okWide_slice Try.underlying22 (hval 0 22 v0 rfl rfl)
  have k0 := h0
  have lt0 : ∀ x ∈ p0, x.block < W.heap.size := by obtain ⟨m, hm⟩ := k0; exact DataW.trod_lt m _ _ _ hm
  obtain ⟨z0, w0⟩ : ∃ zs, ArgInts W a0 len0 cap0 zs := by
    obtain ⟨fuel, hf⟩ := h0
    rcases open_ints Try.underlying22 Try.underlying3 (by kernel_rfl) hf with ⟨hcs, _⟩ | ⟨x, l, c, zs, hcs, _, hl, hm, hz, _, hcell, hwz⟩
    · simp [Value.cells] at hcs
      obtain ⟨rfl, rfl, rfl⟩ := hcs
      exact ⟨[], ArgInts.nil _⟩
    · simp [Value.cells] at hcs
      obtain ⟨rfl, rfl, rfl⟩ := hcs
      exact ⟨zs, ArgInts.some hl hm (by simpa using hz) hcell hwz⟩
  clear hA0 hval0
  refine (walk W a0 len0 cap0 z0 w0).mono fun e W' ⟨he, bel⟩ => ?_
  subst he
  exact ⟨_, rfl, _, _, _, [], _, [], hW', trodAll_mk1 (shut_bool Try.underlying4 _), (trodAll_cons_mk (Below.trod laidOut (by kernel_rfl) (of_decide_eq_true (by kernel_rfl)) k0 bel lt0) trodAll_mk0), rfl, bel.frame _, fun h => by cases h⟩

theorem own_facts : joinedFacts Try.prog 3 Try.f3 Rows.fnExactFormatLineSpec Rows.fnExactFormatLineRow = true :=
  facts_of 3 Try.f3 Rows.fnExactFormatLineSpec Rows.fnExactFormatLineRow (by as_aux_lemma => kernel_rfl) (by as_aux_lemma => kernel_rfl) (by as_aux_lemma => kernel_rfl) rfl rfl
    (by as_aux_lemma => kernel_rfl) (by as_aux_lemma => kernel_rfl) (by as_aux_lemma => kernel_rfl) (by as_aux_lemma => kernel_rfl)
    (by as_aux_lemma => kernel_rfl) (by as_aux_lemma => kernel_rfl) (by as_aux_lemma => kernel_rfl) (by as_aux_lemma => kernel_rfl) (by as_aux_lemma => kernel_rfl)
    (by as_aux_lemma => kernel_rfl) (by as_aux_lemma => kernel_rfl) (by as_aux_lemma => kernel_rfl) (by as_aux_lemma => kernel_rfl)
    rfl rfl rfl rfl (by as_aux_lemma => kernel_rfl) (by as_aux_lemma => kernel_rfl) (by as_aux_lemma => kernel_rfl) (by as_aux_lemma => kernel_rfl)
theorem over : Rows.fnExactFormatLineRow.holds Try.pinned (OpenSpec.ofChange Rows.fnExactFormatLineSpec) :=
  OpenClaim.holds_of_wide 3 Try.f3 rfl rfl rfl rfl rfl rfl rfl ⟨rfl, rfl, rfl, rfl, rfl⟩ rfl rfl rfl rfl rfl (by as_aux_lemma => kernel_rfl) Try.func3 own_facts
    (of_decide_eq_true (by as_aux_lemma => kernel_rfl)) (by unfold Func.isWrapper; first | (rw [if_pos (by decide +kernel)]; kernel_rfl) | (rw [if_neg (by decide +kernel)]; exact ⟨rfl, rfl⟩))
    (fun os started H enc _ => lifted os started H enc)

theorem proved : Rows.FnExactFormatLineSaid := over
#print axioms proved
end Go.Proofs.Ytnfkkkjookfdiaa.fnExactFormatLine
