/- The law 'FnExactCorrectWord': for every input the program's function and the reference's agree, so the call returns true and leaves its arguments as they were; no condition. -/
import Derived.Test.YtgconjollemjiaaRows
import Derived.Test.YtgconjollemjiaaHead
import Derived.Test.YtgconjollemjiaaLineW
import Derived.Test.YtgconjollemjiaaIntS
import Derived.WalkKit
import Derived.ProofKit
import Derived.OpenShut
import Derived.ShutString
import Derived.ChangeOld
import Derived.Below
namespace Go.Proofs.Ytgconjollemjiaa.fnExactCorrectWord
open Go.ChangeShapes Go.WideShapes Go.ChangeAt Go.RowKit
set_option linter.unusedVariables false

theorem own : ownKnob Try.prog.godebug = none := by kernel_rfl
theorem laidOut : laidOutB Try.prog = true := by kernel_rfl


theorem walk (w : World) (a0 : Option Addr) (len0 cap0 : Nat) (z0 : List Int) (w0 : ArgInts w a0 len0 cap0 z0) :
    Calls Try.prog 22 #[.slice a0 len0 cap0] w fun e w' => e = .returned (.bool true) ∧ Below w.heap.size w w' := by
  have b := Below.refl w.heap.size w
  by_cases hlen : 1048576 < len0
  · go_enter Try.func22, Try.ntmps22
    go_wp2_with fail
    go_ret
    exact ⟨rfl, b⟩
  · generalize hxs : z0.take len0 = xs at w0
    have hl := w0.length
    have HR := w0.reads
    rw [hxs] at hl HR
    have hlen' : (len0 : Int) ≤ 1048576 := by omega
    clear w0 hxs
    have HRb := hid HR
    have HL := hid hl
    clear hl
    have hbd := length_corR xs
    go_enter Try.func22, Try.ntmps22
    go_wp2_with fail
    refine (toIntS_own _ _ _ _ _ HR HL.out (by have := HL.out; omega)).mono ?_
    rintro e w1 ⟨s0, c0, rfl, R0, B⟩
    have HR := HR.old B
    have b := below_step b B (Nat.le_refl _)
    clear B
    go_wp2_with fail
    refine (specCorrectWord_any _ _ _ _ _ R0.reads R0.length (by have := HL.out; omega)).mono ?_
    rintro e w2 ⟨t0, n0, d0, rfl, G0, B⟩
    have HR := HR.old B
    have R0 := R0.old B
    have b := below_step b B (Nat.le_refl _)
    clear B
    go_wp2_with fail
    refine (toIntS_own _ _ _ _ _ HR HL.out (by have := HL.out; omega)).mono ?_
    rintro e w3 ⟨s1, c1, rfl, R1, B⟩
    have E0 : ∀ k, blkS t0 n0 k → ¬ blkS s1 len0 k := fun k h h' => by have := (G0.lt h).2; have := (R1.lt h').1; omega
    have L0 : ∀ k, k < w.heap.size → ¬ blkS s1 len0 k := fun k hk h => by have := (R1.lt h).1; have := b.size; omega
    have HR := HR.old B
    have R0 := R0.old B
    have G0 := G0.old B
    have b := below_step b B (Nat.le_refl _)
    clear B
    go_wp2_with fail
    refine (implCorrectWord_any _ _ _ _ _ R1.reads R1.length (by have := HL.out; omega)).mono ?_
    rintro e w4 ⟨t1, n1, d1, rfl, G1, B⟩
    have D0 : ∀ k, blkS t0 n0 k → ¬ blkS t1 n1 k := fun k h h' => by have := (G0.lt h).2; have := (G1.lt h').1; omega
    have D1 : ∀ k, blkS s1 len0 k → ¬ blkS t1 n1 k := fun k h h' => by have := (R1.lt h).2; have := (G1.lt h').1; omega
    have L1 : ∀ k, k < w.heap.size → ¬ blkS t1 n1 k := fun k hk h => by have := (G1.lt h).1; have := b.size; omega
    have HR := HR.old B
    have R0 := R0.old B
    have G0 := G0.old B
    have R1 := R1.old B
    have b := below_step b B (Nat.le_refl _)
    clear B
    have hn0 := G0.length
    have hn1 := G1.length
    have hnn : n0 ≤ 1048576 := by omega
    have hnn1 : n1 ≤ 1048576 := by omega
    have HN0 := hid hn0
    have HN1 := hid hn1
    clear hn0 hn1
    go_wp2_with fail
    refine (eqIntS_own _ _ _ _ _ _ _ _ _ _ G1 G0 (by omega)).mono ?_
    rintro e w5 ⟨rfl, q1, rfl⟩
    have HR := HR.drewN q1
    have R0 := R0.drewN q1
    have G0 := G0.drewN q1
    have R1 := R1.drewN q1
    have G1 := G1.drewN q1
    have b := below_drewN b q1
    generalize w4.drewN q1 = w5 at *
    go_wp2_with fail
    refine (toIntS_own _ _ _ _ _ HR HL.out (by have := HL.out; omega)).mono ?_
    rintro e w6 ⟨s2, c2, rfl, R2, B⟩
    have HR := HR.old B
    have R0 := R0.old B
    have G0 := G0.old B
    have R1 := R1.old B
    have G1 := G1.old B
    have b := below_step b B (Nat.le_refl _)
    clear B
    go_wp2_with fail
    refine (eqIntS_own _ _ _ _ _ _ _ _ _ _ R1 R2 (by have := HL.out; omega)).mono ?_
    rintro e w7 ⟨rfl, q2, rfl⟩
    have HR := HR.drewN q2
    have R0 := R0.drewN q2
    have G0 := G0.drewN q2
    have R1 := R1.drewN q2
    have G1 := G1.drewN q2
    have R2 := R2.drewN q2
    have b := below_drewN b q2
    generalize w6.drewN q2 = w7 at *
    go_wp2_with fail
    refine (markIntS_own _ _ _ _ _ _ _ R1 (by omega) (by omega) (by omega)).mono ?_
    rintro e w8 ⟨rfl, R1', K⟩
    have G0 := G0.keeps K E0
    have G1 := G1.keeps K (fun k h h' => D1 k h' h)
    have b := b.trans (K.below b.size L0)
    clear K R1' R1 R2 R0 HR
    go_wp2_with fail
    refine (eqIntS_own _ _ _ _ _ _ _ _ _ _ G1 G0 (by omega)).mono ?_
    rintro e w9 ⟨rfl, q3, rfl⟩
    have G0 := G0.drewN q3
    have G1 := G1.drewN q3
    have b := below_drewN b q3
    generalize w8.drewN q3 = w9 at *
    go_wp2_with fail
    refine (markIntS_own _ _ _ _ _ _ _ G1 (by omega) (by omega) (by omega)).mono ?_
    rintro e w10 ⟨rfl, M1, K⟩
    have G0 := G0.keeps K D0
    have b := b.trans (K.below b.size L1)
    clear K G1
    go_wp2_with fail
    refine (heldIntS_own _ _ _ _ _ _ M1 (by omega) (by omega) (by omega)).mono ?_
    rintro e w11 ⟨rfl, q4, rfl⟩
    have G0 := G0.drewN q4
    have M1 := M1.drewN q4
    have b := below_drewN b q4
    generalize w10.drewN q4 = w11 at *
    have HR := HRb.out.old b
    go_wp2_with fail
    refine (toIntS_own _ _ _ _ _ HR HL.out (by have := HL.out; omega)).mono ?_
    rintro e w12 ⟨s3, c3, rfl, R3, B⟩
    have G0 := G0.old B
    have M1 := M1.old B
    have HR := HR.old B
    have b := below_step b B (Nat.le_refl _)
    clear B
    go_wp2_with fail
    refine (implCorrectWord_any _ _ _ _ _ R3.reads R3.length (by have := HL.out; omega)).mono ?_
    rintro e w13 ⟨t2, n2, d2, rfl, G2, B⟩
    have G0 := G0.old B
    have M1 := M1.old B
    have HR := HR.old B
    have R3 := R3.old B
    have b := below_step b B (Nat.le_refl _)
    clear B
    go_wp2_with fail
    refine (eqIntS_own _ _ _ _ _ _ _ _ _ _ G2 G0 (by omega)).mono ?_
    rintro e w14 ⟨rfl, q5, rfl⟩
    have G0 := G0.drewN q5
    have M1 := M1.drewN q5
    have HR := HR.drewN q5
    have R3 := R3.drewN q5
    have G2 := G2.drewN q5
    have b := below_drewN b q5
    generalize w13.drewN q5 = w14 at *
    go_wp2_with fail
    refine (heldIntS_own _ _ _ _ _ _ M1 (by omega) (by omega) (by omega)).mono ?_
    rintro e w15 ⟨rfl, q6, rfl⟩
    have G0 := G0.drewN q6
    have M1 := M1.drewN q6
    have HR := HR.drewN q6
    have R3 := R3.drewN q6
    have G2 := G2.drewN q6
    have b := below_drewN b q6
    generalize w14.drewN q6 = w15 at *
    go_wp2_with fail
    go_ret
    exact ⟨rfl, b⟩

set_option maxRecDepth 100000 in
theorem lifted (os : Os) (started : os.Started) (H : Type) (enc : TypeId × Value → H) :
    ReturnsInHanded {} Try.checked os 22 .any (Rows.fnExactCorrectWordSpec.pre6 enc Try.prog Try.f22 Rows.fnExactCorrectWordRow.domain false) (Rows.fnExactCorrectWordSpec.post enc Try.prog Try.f22 false true false false) := by
  refine returnsInHanded_of_change (C := Try.checked) own started (by kernel_rfl) Try.func22
    (ChangeSpec.witness6 (enc := enc) (C := Try.checked) false ⟨#[], #[.slice none 0 0], []⟩ 8 (by kernel_rfl) (by kernel_rfl) (by kernel_rfl) (by kernel_rfl)) ?_
  intro W base args ds gs before hval0 hW hcnd _
  have hval : ∀ (j : Nat) t v, Try.f22.params[j]? = some t → args[j]? = some v → Value.okWide Try.prog W .any base t v := hval0
  have hW' := hW
  obtain ⟨p, q, hA0, hV, rfl, hfz, hnd⟩ := hW
  have hA : DataW.TrodAll enc Try.prog W 0 (fun _ => true) true Try.f22.params.toList args.toList ds p := hA0
  rw [Try.params22] at hA hval
  obtain ⟨v0, vs0, d0, ds0, p0, q0, hargs, rfl, rfl, h0, r0⟩ := trodAll_cons hA
  obtain ⟨rfl, rfl, rfl⟩ := trodAll_nil r0
  obtain rfl : args = #[v0] := by cases args; simp_all
  obtain ⟨rfl, rfl⟩ := trodVars_none hV
  obtain ⟨a0, len0, cap0, rfl⟩ := okWide_slice Try.underlying24 (hval 0 24 v0 rfl rfl)
  have k0 := h0
  have lt0 : ∀ x ∈ p0, x.block < W.heap.size := by obtain ⟨m, hm⟩ := k0; exact DataW.trod_lt m _ _ _ hm
  obtain ⟨z0, w0⟩ : ∃ zs, ArgInts W a0 len0 cap0 zs := by
    obtain ⟨fuel, hf⟩ := h0
    rcases open_ints Try.underlying24 Try.underlying3 (by kernel_rfl) hf with ⟨hcs, _⟩ | ⟨x, l, c, zs, hcs, _, hl, hm, hz, _, hcell, hwz⟩
    · simp [Value.cells] at hcs
      obtain ⟨rfl, rfl, rfl⟩ := hcs
      exact ⟨[], ArgInts.nil _⟩
    · simp [Value.cells] at hcs
      obtain ⟨rfl, rfl, rfl⟩ := hcs
      exact ⟨zs, ArgInts.some hl hm (by simpa using hz) hcell hwz⟩
  clear hA0 hval0
  refine (walk W a0 len0 cap0 z0 w0).mono fun e W' ⟨he, bel⟩ => ?_
  subst he
  exact ⟨_, rfl, _, _, _, [], _, [], hW', trodAll_mk1 (shut_bool Try.underlying4 _), (trodAll_cons_mk (Below.trod laidOut (by kernel_rfl) (of_decide_eq_true (by kernel_rfl)) k0 bel lt0) trodAll_mk0), rfl, bel.frame _, fun h => by cases h⟩

theorem own_facts : joinedFacts Try.prog 22 Try.f22 Rows.fnExactCorrectWordSpec Rows.fnExactCorrectWordRow = true :=
  facts_of 22 Try.f22 Rows.fnExactCorrectWordSpec Rows.fnExactCorrectWordRow (by as_aux_lemma => kernel_rfl) (by as_aux_lemma => kernel_rfl) (by as_aux_lemma => kernel_rfl) rfl rfl
    (by as_aux_lemma => kernel_rfl) (by as_aux_lemma => kernel_rfl) (by as_aux_lemma => kernel_rfl) (by as_aux_lemma => kernel_rfl)
    (by as_aux_lemma => kernel_rfl) (by as_aux_lemma => kernel_rfl) (by as_aux_lemma => kernel_rfl) (by as_aux_lemma => kernel_rfl) (by as_aux_lemma => kernel_rfl)
    (by as_aux_lemma => kernel_rfl) (by as_aux_lemma => kernel_rfl) (by as_aux_lemma => kernel_rfl) (by as_aux_lemma => kernel_rfl)
    rfl rfl rfl rfl (by as_aux_lemma => kernel_rfl) (by as_aux_lemma => kernel_rfl) (by as_aux_lemma => kernel_rfl) (by as_aux_lemma => kernel_rfl)
theorem over : Rows.fnExactCorrectWordRow.holds Try.pinned (OpenSpec.ofChange Rows.fnExactCorrectWordSpec) :=
  OpenClaim.holds_of_wide 22 Try.f22 rfl rfl rfl rfl rfl rfl rfl ⟨rfl, rfl, rfl, rfl, rfl⟩ rfl rfl rfl rfl rfl (by as_aux_lemma => kernel_rfl) Try.func22 own_facts
    (of_decide_eq_true (by as_aux_lemma => kernel_rfl)) (by unfold Func.isWrapper; first | (rw [if_pos (by decide +kernel)]; kernel_rfl) | (rw [if_neg (by decide +kernel)]; exact ⟨rfl, rfl⟩))
    (fun os started H enc _ => lifted os started H enc)

theorem proved : Rows.FnExactCorrectWordSaid := over
#print axioms proved
end Go.Proofs.Ytgconjollemjiaa.fnExactCorrectWord
