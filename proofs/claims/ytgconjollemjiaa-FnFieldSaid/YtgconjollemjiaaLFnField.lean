/- The law 'FnField': for every input the program's function and the reference's agree, so the call returns true and leaves its arguments as they were; no condition. -/
import Derived.Test.YtgconjollemjiaaRows
import Derived.Test.YtgconjollemjiaaHead
import Derived.Test.YtgconjollemjiaaDraw
import Derived.Test.YtgconjollemjiaaLin
import Derived.Test.YtgconjollemjiaaGfW
import Derived.WalkKit
import Derived.ProofKit
import Derived.OpenShut
import Derived.ShutString
import Derived.ChangeOld
import Derived.Below
namespace Go.Proofs.Ytgconjollemjiaa.fnField
open Go.ChangeShapes Go.WideShapes Go.ChangeAt Go.RowKit
set_option linter.unusedVariables false

theorem own : ownKnob Try.prog.godebug = none := by kernel_rfl
theorem laidOut : laidOutB Try.prog = true := by kernel_rfl

theorem dist_fin : ∀ i j k : Fin 16, gfMul i.val (gfAdd j.val k.val) = gfAdd (gfMul i.val j.val) (gfMul i.val k.val) := by decide +kernel
theorem comm_fin : ∀ i j : Fin 16, gfMul i.val j.val = gfMul j.val i.val := by decide +kernel
theorem assoc_fin : ∀ i j k : Fin 16, gfMul (gfMul i.val j.val) k.val = gfMul i.val (gfMul j.val k.val) := by decide +kernel
theorem one_fin : ∀ i : Fin 16, gfMul i.val 1 = i.val := by decide +kernel
theorem inv_fin : ∀ i : Fin 16, (i.val : Int) ≠ 0 → gfMul i.val (gfInv i.val) = 1 := by decide +kernel
theorem inv_zero : gfInv 0 = -1 := by decide +kernel
theorem fin_of {x : Int} (h : 0 ≤ x ∧ x < 10000) : ∃ i : Fin 16, x % 16 = i.val := ⟨⟨(x % 16).toNat, by omega⟩, by simp; omega⟩

theorem walk (w : World) (a0 : Option Addr) (len0 cap0 : Nat) (w0 : BytesR w a0 len0) (m0 : len0 ≤ maxLen) :
    Calls Try.prog 12 #[.slice a0 len0 cap0] w fun e w' => e = .returned (.bool true) ∧ Below w.heap.size w w' := by
  by_cases hlen : 1048576 < len0
  · have hd : decide (1048576 < (len0 : Int)) = true := by simp; omega
    go_enter Try.func12, Try.ntmps12
    go_wp2_with fail
    refine (big_any _ _ _ _ m0).mono ?_
    rintro e w1 ⟨rfl, rfl⟩
    go_wp2_with fail
    go_ret
    exact ⟨rfl, Below.refl _ _⟩
  have hd : decide (1048576 < (len0 : Int)) = false := by simp; omega
  have HW := hid w0
  clear w0
  go_enter Try.func12, Try.ntmps12
  go_wp2_with fail
  refine (big_any _ _ _ _ m0).mono ?_
  rintro e w1 ⟨rfl, rfl⟩
  go_wp2_with fail
  refine (DrawPlaces_any _ _ _ _ HW.out (by omega)).mono ?_
  rintro e w1 ⟨g, cap, xs, rfl, hg, R, HX, B⟩
  have hl := R.length
  obtain ⟨p0, h0⟩ := some_at (xs := xs) (k := 0) hl.symm (by omega)
  obtain ⟨p1, h1⟩ := some_at (xs := xs) (k := 1) hl.symm (by omega)
  obtain ⟨p2, h2⟩ := some_at (xs := xs) (k := 2) hl.symm (by omega)
  have c0 := R.cell h0
  have c1 := R.cell h1
  have c2 := R.cell h2
  have r0 := HX p0 (List.mem_of_getElem? h0)
  have r1 := HX p1 (List.mem_of_getElem? h1)
  have r2 := HX p2 (List.mem_of_getElem? h2)
  have HB := hid B
  clear R B HX h0 h1 h2 hl hd
  obtain ⟨i, hi⟩ := fin_of r0
  obtain ⟨j, hj⟩ := fin_of r1
  obtain ⟨k, hk⟩ := fin_of r2
  have q1 : (gfMul (p0 % 16) (gfAdd (p1 % 16) (p2 % 16)) != gfAdd (gfMul (p0 % 16) (p1 % 16)) (gfMul (p0 % 16) (p2 % 16))) = false := by rw [hi, hj, hk]; simp [dist_fin]
  have q2 : (gfMul (p0 % 16) (p1 % 16) != gfMul (p1 % 16) (p0 % 16)) = false := by rw [hi, hj]; simp [comm_fin i j]
  have q3 : (gfMul (gfMul (p0 % 16) (p1 % 16)) (p2 % 16) != gfMul (p0 % 16) (gfMul (p1 % 16) (p2 % 16))) = false := by rw [hi, hj, hk]; simp [assoc_fin]
  have q4 : (gfMul (p0 % 16) 1 == p0 % 16) = true := by rw [hi]; simp [one_fin]
  have q5 : ((p0 % 16 == 0) = true ∨ ((p0 % 16 == 0) = false ∧ (gfMul (p0 % 16) (gfInv (p0 % 16)) == 1) = true)) := by
    rw [hi]
    by_cases h : (i.val : Int) = 0
    · exact .inl (beq_iff_eq.2 h)
    · exact .inr ⟨beq_eq_false_iff_ne.2 h, by rw [inv_fin i h]; rfl⟩
  have q6 : (gfInv 0 == -1) = true := by rw [inv_zero]; rfl
  have hp0 : 0 ≤ p0 := r0.1
  have hp1 : 0 ≤ p1 := r1.1
  have hp2 : 0 ≤ p2 := r2.1
  clear hi hj hk r0 r1 r2
  rcases q5 with q5 | ⟨q5, q7⟩
  all_goals
    go_wp2_with (first | (go_at_call 33; refine (implGfAdd_any _ _ _).mono ?_; rintro e w' ⟨rfl, rfl⟩) | (go_at_call 35; refine (implGfMul_any _ _ _).mono ?_; rintro e w' ⟨rfl, rfl⟩) | (go_at_call 45; refine (implGfInv_any _ _).mono ?_; rintro e w' ⟨rfl, rfl⟩))
    go_ret
    exact ⟨rfl, HB.out⟩

set_option maxRecDepth 100000 in
theorem lifted (os : Os) (started : os.Started) (H : Type) (enc : TypeId × Value → H) :
    ReturnsInHanded {} Try.checked os 12 .any (Rows.fnFieldSpec.pre6 enc Try.prog Try.f12 Rows.fnFieldRow.domain false) (Rows.fnFieldSpec.post enc Try.prog Try.f12 false true false false) := by
  refine returnsInHanded_of_change (C := Try.checked) own started (by kernel_rfl) Try.func12
    (ChangeSpec.witness6 (enc := enc) (C := Try.checked) false ⟨#[], #[.slice none 0 0], []⟩ 8 (by kernel_rfl) (by kernel_rfl) (by kernel_rfl) (by kernel_rfl)) ?_
  intro W base args ds gs before hval0 hW hcnd _
  have hval : ∀ (j : Nat) t v, Try.f12.params[j]? = some t → args[j]? = some v → Value.okWide Try.prog W .any base t v := hval0
  have hW' := hW
  obtain ⟨p, q, hA0, hV, rfl, hfz, hnd⟩ := hW
  have hA : DataW.TrodAll enc Try.prog W 0 (fun _ => true) true Try.f12.params.toList args.toList ds p := hA0
  rw [Try.params12] at hA hval
  obtain ⟨v0, vs0, d0, ds0, p0, q0, hargs, rfl, rfl, h0, r0⟩ := trodAll_cons hA
  obtain ⟨rfl, rfl, rfl⟩ := trodAll_nil r0
  obtain rfl : args = #[v0] := by cases args; simp_all
  obtain ⟨rfl, rfl⟩ := trodVars_none hV
  obtain ⟨a0, len0, cap0, rfl⟩ := okWide_slice Try.underlying36 (hval 0 36 v0 rfl rfl)
  have k0 := h0
  have lt0 : ∀ x ∈ p0, x.block < W.heap.size := by obtain ⟨m, hm⟩ := k0; exact DataW.trod_lt m _ _ _ hm
  obtain ⟨w0, m0⟩ : BytesR W a0 len0 ∧ len0 ≤ maxLen := by
    obtain ⟨fuel, hf⟩ := h0
    rcases open_ints Try.underlying36 Try.underlying5 (by kernel_rfl) hf with ⟨hcs, _⟩ | ⟨x, l, c, zs, hcs, _, hl, hm, hz, _, hcell, hwz⟩
    · simp [Value.cells] at hcs
      obtain ⟨rfl, rfl, rfl⟩ := hcs
      exact ⟨fun i hi => absurd hi (Nat.not_lt_zero _), Nat.zero_le _⟩
    · simp [Value.cells] at hcs
      obtain ⟨rfl, rfl, rfl⟩ := hcs
      exact ⟨BytesR.of_cells hl (by simpa using hz) hcell hwz, Nat.le_trans hl hm⟩
  clear hA0 hval0
  refine (walk W a0 len0 cap0 w0 m0).mono fun e W' ⟨he, bel⟩ => ?_
  subst he
  exact ⟨_, rfl, _, _, _, [], _, [], hW', trodAll_mk1 (shut_bool Try.underlying4 _), (trodAll_cons_mk (Below.trod laidOut (by kernel_rfl) (of_decide_eq_true (by kernel_rfl)) k0 bel lt0) trodAll_mk0), rfl, bel.frame _, fun h => by cases h⟩

theorem own_facts : joinedFacts Try.prog 12 Try.f12 Rows.fnFieldSpec Rows.fnFieldRow = true :=
  facts_of 12 Try.f12 Rows.fnFieldSpec Rows.fnFieldRow (by as_aux_lemma => kernel_rfl) (by as_aux_lemma => kernel_rfl) (by as_aux_lemma => kernel_rfl) rfl rfl
    (by as_aux_lemma => kernel_rfl) (by as_aux_lemma => kernel_rfl) (by as_aux_lemma => kernel_rfl) (by as_aux_lemma => kernel_rfl)
    (by as_aux_lemma => kernel_rfl) (by as_aux_lemma => kernel_rfl) (by as_aux_lemma => kernel_rfl) (by as_aux_lemma => kernel_rfl) (by as_aux_lemma => kernel_rfl)
    (by as_aux_lemma => kernel_rfl) (by as_aux_lemma => kernel_rfl) (by as_aux_lemma => kernel_rfl) (by as_aux_lemma => kernel_rfl)
    rfl rfl rfl rfl (by as_aux_lemma => kernel_rfl) (by as_aux_lemma => kernel_rfl) (by as_aux_lemma => kernel_rfl) (by as_aux_lemma => kernel_rfl)
theorem over : Rows.fnFieldRow.holds Try.pinned (OpenSpec.ofChange Rows.fnFieldSpec) :=
  OpenClaim.holds_of_wide 12 Try.f12 rfl rfl rfl rfl rfl rfl rfl ⟨rfl, rfl, rfl, rfl, rfl⟩ rfl rfl rfl rfl rfl (by as_aux_lemma => kernel_rfl) Try.func12 own_facts
    (of_decide_eq_true (by as_aux_lemma => kernel_rfl)) (by unfold Func.isWrapper; first | (rw [if_pos (by decide +kernel)]; kernel_rfl) | (rw [if_neg (by decide +kernel)]; exact ⟨rfl, rfl⟩))
    (fun os started H enc _ => lifted os started H enc)

theorem proved : Rows.FnFieldSaid := over
#print axioms proved
end Go.Proofs.Ytgconjollemjiaa.fnField
