/- The law 'FnPowers': for every input the program's function and the reference's agree, so the call returns true and leaves its arguments as they were; no condition. -/
import Derived.Test.YtgconjollemjiaaRows
import Derived.Test.YtgconjollemjiaaHead
import Derived.Test.YtgconjollemjiaaDraw
import Derived.Test.YtgconjollemjiaaLin
import Derived.Test.YtgconjollemjiaaGfW
import Derived.WalkKit
import Derived.ProofKit
import Derived.OpenShut
import Derived.ShutString
import Derived.ChangeOld
import Derived.Below
namespace Go.Proofs.Ytgconjollemjiaa.fnPowers
open Go.ChangeShapes Go.WideShapes Go.ChangeAt Go.RowKit
set_option linter.unusedVariables false

theorem own : ownKnob Try.prog.godebug = none := by kernel_rfl
theorem laidOut : laidOutB Try.prog = true := by kernel_rfl

theorem one_fin : ∀ i : Fin 16, gfMul i.val 1 = i.val := by decide +kernel
theorem assoc_fin : ∀ i j k : Fin 16, gfMul (gfMul i.val j.val) k.val = gfMul i.val (gfMul j.val k.val) := by decide +kernel
theorem log_pow_fin : ∀ i : Fin 15, gfPow 2 (gfLog (1 + i.val)) = 1 + i.val := by decide +kernel
theorem pow15_fin : ∀ i : Fin 15, gfPow (1 + i.val) 15 = 1 := by decide +kernel
theorem log_zero : gfLog 0 = -1 := by decide +kernel
theorem mul_elem {a b : Int} (ha : inB a 0 15 = true) (hb : inB b 0 15 = true) : inB (gfMul a b) 0 15 = true := by
  obtain ⟨x, rfl⟩ := elem_tI ha
  obtain ⟨y, rfl⟩ := elem_tI hb
  rw [tI_mul]; exact tI_elem _
theorem powN_elem {a : Int} (ha : inB a 0 15 = true) (k : Nat) : inB (powN a k) 0 15 = true := by
  induction k with
  | zero => rfl
  | succ k ih => exact mul_elem ih ha
theorem powN_add {a : Int} (ha : inB a 0 15 = true) (m n : Nat) : gfMul (powN a m) (powN a n) = powN a (m + n) := by
  induction n with
  | zero =>
    obtain ⟨i, hi⟩ := elem_fin (powN_elem ha m)
    rw [powN, hi, one_fin, ← hi]; rfl
  | succ n ih =>
    obtain ⟨i, hi⟩ := elem_fin (powN_elem ha m)
    obtain ⟨j, hj⟩ := elem_fin (powN_elem ha n)
    obtain ⟨k, hk⟩ := elem_fin ha
    rw [powN, ← Nat.add_assoc, powN, ← ih, hi, hj, hk, assoc_fin]
theorem pow_add {a m n : Int} (ha : inB a 0 15 = true) (hm : 0 ≤ m ∧ m < 30) (hn : 0 ≤ n ∧ n < 30) : gfMul (gfPow a m) (gfPow a n) = gfPow a (m + n) := by
  have k1 : inB m 0 1000 = true := inB_iff.2 (by omega)
  have k2 : inB n 0 1000 = true := inB_iff.2 (by omega)
  have k3 : inB (m + n) 0 1000 = true := inB_iff.2 (by omega)
  simp only [gfPow, ha, k1, k2, k3, Bool.and_self, if_true]
  rw [powN_add ha, show (m + n).toNat = m.toNat + n.toNat by omega]
theorem fin_of {x : Int} (h : 0 ≤ x ∧ x < 10000) : ∃ i : Fin 15, x % 15 = i.val := ⟨⟨(x % 15).toNat, by omega⟩, by simp; omega⟩

theorem walk (w : World) (a0 : Option Addr) (len0 cap0 : Nat) (w0 : BytesR w a0 len0) (m0 : len0 ≤ maxLen) :
    Calls Try.prog 14 #[.slice a0 len0 cap0] w fun e w' => e = .returned (.bool true) ∧ Below w.heap.size w w' := by
  by_cases hlen : 1048576 < len0
  · have hd : decide (1048576 < (len0 : Int)) = true := by simp; omega
    go_enter Try.func14, Try.ntmps14
    go_wp2_with fail
    refine (big_any _ _ _ _ m0).mono ?_
    rintro e w1 ⟨rfl, rfl⟩
    go_wp2_with fail
    go_ret
    exact ⟨rfl, Below.refl _ _⟩
  have hd : decide (1048576 < (len0 : Int)) = false := by simp; omega
  have HW := hid w0
  clear w0
  go_enter Try.func14, Try.ntmps14
  go_wp2_with fail
  refine (big_any _ _ _ _ m0).mono ?_
  rintro e w1 ⟨rfl, rfl⟩
  go_wp2_with fail
  refine (DrawPlaces_any _ _ _ _ HW.out (by omega)).mono ?_
  rintro e w1 ⟨g, cap, xs, rfl, hg, R, HX, B⟩
  have hl := R.length
  obtain ⟨p0, h0⟩ := some_at (xs := xs) (k := 0) hl.symm (by omega)
  obtain ⟨p1, h1⟩ := some_at (xs := xs) (k := 1) hl.symm (by omega)
  obtain ⟨p2, h2⟩ := some_at (xs := xs) (k := 2) hl.symm (by omega)
  have c0 := R.cell h0
  have c1 := R.cell h1
  have c2 := R.cell h2
  have r0 := HX p0 (List.mem_of_getElem? h0)
  have r1 := HX p1 (List.mem_of_getElem? h1)
  have r2 := HX p2 (List.mem_of_getElem? h2)
  have HB := hid B
  clear R B HX h0 h1 h2 hl hd
  obtain ⟨i, hi⟩ := fin_of r0
  have ha : inB (1 + p0 % 15) 0 15 = true := inB_iff.2 (by omega)
  have q1 : (gfPow 2 (gfLog (1 + p0 % 15)) == 1 + p0 % 15) = true := by rw [hi, log_pow_fin]; simp
  have q2 : (gfPow (1 + p0 % 15) 15 == 1) = true := by rw [hi, pow15_fin]; rfl
  have q3 : (gfMul (gfPow (1 + p0 % 15) (p1 % 30)) (gfPow (1 + p0 % 15) (p2 % 30)) == gfPow (1 + p0 % 15) (p1 % 30 + p2 % 30)) = true := by
    rw [pow_add ha (by omega) (by omega)]; simp
  have q4 : (gfLog 0 == -1) = true := by rw [log_zero]; rfl
  have hp0 : 0 ≤ p0 := r0.1
  have hp1 : 0 ≤ p1 := r1.1
  have hp2 : 0 ≤ p2 := r2.1
  clear hi r0 r1 r2 ha
  go_wp2_with (first | (go_at_call 57; refine (implGfLog_any _ _).mono ?_; rintro e w' ⟨rfl, rfl⟩) | (go_at_call 35; refine (implGfMul_any _ _ _).mono ?_; rintro e w' ⟨rfl, rfl⟩) | (go_at_call 47; refine (implGfPow_any _ _ _).mono ?_; rintro e w' ⟨rfl, rfl⟩))
  go_ret
  exact ⟨rfl, HB.out⟩

set_option maxRecDepth 100000 in
theorem lifted (os : Os) (started : os.Started) (H : Type) (enc : TypeId × Value → H) :
    ReturnsInHanded {} Try.checked os 14 .any (Rows.fnPowersSpec.pre6 enc Try.prog Try.f14 Rows.fnPowersRow.domain false) (Rows.fnPowersSpec.post enc Try.prog Try.f14 false true false false) := by
  refine returnsInHanded_of_change (C := Try.checked) own started (by kernel_rfl) Try.func14
    (ChangeSpec.witness6 (enc := enc) (C := Try.checked) false ⟨#[], #[.slice none 0 0], []⟩ 8 (by kernel_rfl) (by kernel_rfl) (by kernel_rfl) (by kernel_rfl)) ?_
  intro W base args ds gs before hval0 hW hcnd _
  have hval : ∀ (j : Nat) t v, Try.f14.params[j]? = some t → args[j]? = some v → Value.okWide Try.prog W .any base t v := hval0
  have hW' := hW
  obtain ⟨p, q, hA0, hV, rfl, hfz, hnd⟩ := hW
  have hA : DataW.TrodAll enc Try.prog W 0 (fun _ => true) true Try.f14.params.toList args.toList ds p := hA0
  rw [Try.params14] at hA hval
  obtain ⟨v0, vs0, d0, ds0, p0, q0, hargs, rfl, rfl, h0, r0⟩ := trodAll_cons hA
  obtain ⟨rfl, rfl, rfl⟩ := trodAll_nil r0
  obtain rfl : args = #[v0] := by cases args; simp_all
  obtain ⟨rfl, rfl⟩ := trodVars_none hV
  obtain ⟨a0, len0, cap0, rfl⟩ := okWide_slice Try.underlying36 (hval 0 36 v0 rfl rfl)
  have k0 := h0
  have lt0 : ∀ x ∈ p0, x.block < W.heap.size := by obtain ⟨m, hm⟩ := k0; exact DataW.trod_lt m _ _ _ hm
  obtain ⟨w0, m0⟩ : BytesR W a0 len0 ∧ len0 ≤ maxLen := by
    obtain ⟨fuel, hf⟩ := h0
    rcases open_ints Try.underlying36 Try.underlying5 (by kernel_rfl) hf with ⟨hcs, _⟩ | ⟨x, l, c, zs, hcs, _, hl, hm, hz, _, hcell, hwz⟩
    · simp [Value.cells] at hcs
      obtain ⟨rfl, rfl, rfl⟩ := hcs
      exact ⟨fun i hi => absurd hi (Nat.not_lt_zero _), Nat.zero_le _⟩
    · simp [Value.cells] at hcs
      obtain ⟨rfl, rfl, rfl⟩ := hcs
      exact ⟨BytesR.of_cells hl (by simpa using hz) hcell hwz, Nat.le_trans hl hm⟩
  clear hA0 hval0
  refine (walk W a0 len0 cap0 w0 m0).mono fun e W' ⟨he, bel⟩ => ?_
  subst he
  exact ⟨_, rfl, _, _, _, [], _, [], hW', trodAll_mk1 (shut_bool Try.underlying4 _), (trodAll_cons_mk (Below.trod laidOut (by kernel_rfl) (of_decide_eq_true (by kernel_rfl)) k0 bel lt0) trodAll_mk0), rfl, bel.frame _, fun h => by cases h⟩

theorem own_facts : joinedFacts Try.prog 14 Try.f14 Rows.fnPowersSpec Rows.fnPowersRow = true :=
  facts_of 14 Try.f14 Rows.fnPowersSpec Rows.fnPowersRow (by as_aux_lemma => kernel_rfl) (by as_aux_lemma => kernel_rfl) (by as_aux_lemma => kernel_rfl) rfl rfl
    (by as_aux_lemma => kernel_rfl) (by as_aux_lemma => kernel_rfl) (by as_aux_lemma => kernel_rfl) (by as_aux_lemma => kernel_rfl)
    (by as_aux_lemma => kernel_rfl) (by as_aux_lemma => kernel_rfl) (by as_aux_lemma => kernel_rfl) (by as_aux_lemma => kernel_rfl) (by as_aux_lemma => kernel_rfl)
    (by as_aux_lemma => kernel_rfl) (by as_aux_lemma => kernel_rfl) (by as_aux_lemma => kernel_rfl) (by as_aux_lemma => kernel_rfl)
    rfl rfl rfl rfl (by as_aux_lemma => kernel_rfl) (by as_aux_lemma => kernel_rfl) (by as_aux_lemma => kernel_rfl) (by as_aux_lemma => kernel_rfl)
theorem over : Rows.fnPowersRow.holds Try.pinned (OpenSpec.ofChange Rows.fnPowersSpec) :=
  OpenClaim.holds_of_wide 14 Try.f14 rfl rfl rfl rfl rfl rfl rfl ⟨rfl, rfl, rfl, rfl, rfl⟩ rfl rfl rfl rfl rfl (by as_aux_lemma => kernel_rfl) Try.func14 own_facts
    (of_decide_eq_true (by as_aux_lemma => kernel_rfl)) (by unfold Func.isWrapper; first | (rw [if_pos (by decide +kernel)]; kernel_rfl) | (rw [if_neg (by decide +kernel)]; exact ⟨rfl, rfl⟩))
    (fun os started H enc _ => lifted os started H enc)

theorem proved : Rows.FnPowersSaid := over
#print axioms proved
end Go.Proofs.Ytgconjollemjiaa.fnPowers
