/- The law 'FnLineWords': for every input the program's function and the reference's agree, so the call returns true and leaves its arguments as they were; no condition. -/
import Derived.Test.YtnfkkkjookfdiaaRows
import Derived.Test.YtnfkkkjookfdiaaHead
import Derived.Test.YtnfkkkjookfdiaaDraw
import Derived.Test.YtnfkkkjookfdiaaWordP
import Derived.Test.YtnfkkkjookfdiaaFmtW
import Derived.WalkKit
import Derived.ProofKit
import Derived.OpenShut
import Derived.ShutString
import Derived.ChangeOld
import Derived.Below
namespace Go.Proofs.Ytnfkkkjookfdiaa.fnLineWords
open Go.ChangeShapes Go.WideShapes Go.ChangeAt Go.RowKit
set_option linter.unusedVariables false

theorem own : ownKnob Try.prog.godebug = none := by kernel_rfl
theorem laidOut : laidOutB Try.prog = true := by kernel_rfl

theorem list_of_sym {xs : List Int} {n : Nat} (h : symOk xs n = true) : ∃ ys : List (BitVec 4), xs = ys.map tI := by
  unfold symOk allEl at h
  simp only [Bool.and_eq_true] at h
  exact list_tI xs h.1
theorem drop_encB (ys : List (BitVec 4)) : (encB ys).drop 3 = ys := by simp [encB]
/-- A word survives a wrong symbol. -/
theorem survives {x : Int} (h : inB x 0 4294967295 = true) (k : Nat) (hk : k < 11) (c : Nat) (hc : c < 16) :
    (lineR x).length = 11 ∧ decR ((lineR x).set k c) = x ∧ (corR ((lineR x).set k c)).2.1 ≠ 2 ∧ (fmtL ((lineR x).set k c)).length = 11 ∧ ((lineR x).set k c).length = 11 := by
  obtain ⟨hs, hok, hw⟩ := word_back h
  obtain ⟨ys, hys⟩ := list_of_sym (n := 8) hok
  have h8 : ys.length = 8 := by have := len_of_ok (n := 8) hok; rw [hys] at this; simpa using this
  have hl : lineR x = (encB ys).map tI := by
    rw [lineR, encR, hys, if_pos (show symOk (ys.map tI) 8 = true from symOk_tI ys 8 h8), encI_tI]
  have hcv : (c : Int) = tI (BitVec.ofNat 4 c) := by unfold tI; simp; omega
  obtain ⟨e1, e2⟩ := corrected ys h8 k hk (BitVec.ofNat 4 c)
  have hb : (encB ys).length = 11 := by rw [length_encB, h8]
  rw [hl, hcv]
  refine ⟨by rw [List.length_map, hb], ?_, e2, ?_, by rw [List.length_set, List.length_map, hb]⟩
  · rw [decR, if_neg e2, e1, dataR, if_pos (show symOk ((encB ys).map tI) 11 = true from symOk_tI _ 11 hb), ← List.map_drop, drop_encB, ← hys]
    exact hw
  · have hs : ((encB ys).map tI).set k (tI (BitVec.ofNat 4 c)) = ((encB ys).set k (BitVec.ofNat 4 c)).map tI := by rw [List.map_set]
    rw [hs, fmtL_yes (show symOk _ 11 = true from symOk_tI _ 11 (by rw [List.length_set, hb])), List.length_map, List.length_map, List.length_set, hb]
theorem tmod_of {x m : Int} (h0 : 0 ≤ x) (hm : 0 < m) : ∃ k : Nat, x.tmod m = (k : Int) ∧ (k : Int) < m := by
  refine ⟨(x % m).toNat, ?_, ?_⟩
  · rw [Int.tmod_eq_emod_of_nonneg h0]; have := Int.emod_nonneg x (show m ≠ 0 by omega); omega
  · have := Int.emod_nonneg x (show m ≠ 0 by omega); have := Int.emod_lt_of_pos x hm; omega

set_option maxRecDepth 100000 in
theorem walk (w : World) (a0 : Option Addr) (len0 cap0 : Nat) (w0 : BytesR w a0 len0) (m0 : len0 ≤ maxLen) :
    Calls Try.prog 6 #[.slice a0 len0 cap0] w fun e w' => e = .returned (.bool true) ∧ Below w.heap.size w w' := by
  by_cases hlen : 1048576 < len0
  · have hd : decide (1048576 < (len0 : Int)) = true := by simp; omega
    go_enter Try.func6, Try.ntmps6
    go_wp2_with fail
    refine (big_any _ _ _ _ m0).mono ?_
    rintro e w1 ⟨rfl, rfl⟩
    go_wp2_with fail
    go_ret
    exact ⟨rfl, Below.refl _ _⟩
  have hd : decide (1048576 < (len0 : Int)) = false := by simp; omega
  have HW := hid w0
  clear w0
  go_enter Try.func6, Try.ntmps6
  go_wp2_with fail
  refine (big_any _ _ _ _ m0).mono ?_
  rintro e w1 ⟨rfl, rfl⟩
  go_wp2_with fail
  refine (DrawWord_any _ _ _ _ HW.out (by omega)).mono ?_
  rintro e w1 ⟨x, rfl, hx, B⟩
  have HX := hid hx
  have HW1 := hid (HW.out.old B)
  have HB := hid B
  clear hx hd HW B
  go_wp2_with fail
  refine (DrawPlaces_any _ _ _ _ HW1.out (by omega)).mono ?_
  rintro e w2 ⟨g2, c2, ps, rfl, hg2, R2, hps, B2⟩
  have HPS := hid hps
  have HB := hid (below_step HB.out B2 (Nat.le_refl _))
  have HR2 := hid R2
  have hs2 := HB.out.size
  clear hps B2 R2 HW1
  go_wp2_with fail
  refine (implEncodeLine_any _ _).mono ?_
  rintro e w3 ⟨t1, n1, d1, rfl, A1, B3⟩
  have R2 := HR2.out.old B3
  have hlt2 := HR2.out.lt
  have HB := hid (below_step HB.out B3 (Nat.le_refl _))
  have HL2 := hid R2.length
  obtain ⟨p0, hp0⟩ : ∃ x, ps[0]? = some x := ⟨ps[0]'(by rw [HL2.out]; omega), List.getElem?_eq_getElem _⟩
  obtain ⟨p1, hp1⟩ : ∃ x, ps[1]? = some x := ⟨ps[1]'(by rw [HL2.out]; omega), List.getElem?_eq_getElem _⟩
  obtain ⟨a0', a1'⟩ := HPS.out p0 (List.mem_of_getElem? hp0)
  obtain ⟨d0', d1'⟩ := HPS.out p1 (List.mem_of_getElem? hp1)
  obtain ⟨k, ek, hk⟩ := tmod_of (x := p0) (m := 11) a0' (by omega)
  obtain ⟨c, ec, hc⟩ := tmod_of (x := p1) (m := 16) d0' (by omega)
  have hk11 : k < 11 := by omega
  obtain ⟨s1, s2, s3, s4, s5⟩ := survives HX.out k hk11 c (by omega)
  have hn : n1 = 11 := A1.length.trans s1
  subst hn
  obtain ⟨g1, rfl, hg1, R1⟩ := A1.row (by decide)
  have HX1 := hid hg1
  have k0 := R2.cell hp0
  have k1 := R2.cell hp1
  obtain ⟨z, hz⟩ := some_at s1.symm hk11
  have k3 := R1.cell hz
  have f3 := R1.frozen k
  have HS := R1.set k (c : Int)
  have HR1 := hid HS.1
  have HK := hid HS.2
  have ek' : p0 % 11 = (k : Int) := by rw [← ek, Int.tmod_eq_emod_of_nonneg a0']
  have ec' : p1 % 16 = (c : Int) := by rw [← ec, Int.tmod_eq_emod_of_nonneg d0']
  have S2 := hid s2
  have S4 := hid s4
  have S5 := hid s5
  have s3' : ((corR ((lineR x).set k (c : Int))).2.1 != 2) = true := by simpa using s3
  have S3 := hid s3'
  clear HS hp0 hp1 a0' a1' d0' d1' s1 s2 s3 s4 s5 s3' hz R1 R2 A1 B3 HR2 HPS
  have hki : (0 : Int) ≤ (k : Int) := by omega
  go_wp2_with fail
  clear k0 k1 k3 f3 ek ec ek' ec'
  refine (implDecodeLine_any _ _ _ _ _ HR1.out.reads (by rw [S5.out]) (by rw [S5.out]; omega)).mono ?_
  rintro e w5 ⟨rfl, B5⟩
  rw [S2.out]
  have R5 := HR1.out.old B5
  have b5 := below_step (HB.out.trans (HK.out.below (B := w.heap.size) HB.out.size (fun i hi e => by have := hs2; have := HX1.out; omega))) B5 (Nat.le_refl _)
  have hcode := S3.out
  have h4 : (fmtL ((lineR x).set k (c : Int))).length = 11 := S4.out
  have l5 : 11 = ((lineR x).set k (c : Int)).length := S5.out.symm
  generalize (lineR x).set k (c : Int) = L at *
  have HL5 := hid l5
  have H4 := hid h4
  have HR5 := hid R5
  have Hb5 := hid b5
  clear l5 h4 R5 b5 HR1 HK B5
  have hxx : (x == x) = true := by simp
  generalize (corR L).2.1 = code at *
  go_wp2_with fail
  refine (implFormatLine_any _ _ _ _ _ HR5.out.reads HL5.out (by have := HL5.out; omega)).mono ?_
  rintro e w6 ⟨rfl, q, rfl⟩
  have h4 := H4.out
  generalize fmtL L = F at *
  go_wp2_with fail
  go_ret
  exact ⟨rfl, below_drewN Hb5.out q⟩

set_option maxRecDepth 100000 in
theorem lifted (os : Os) (started : os.Started) (H : Type) (enc : TypeId × Value → H) :
    ReturnsInHanded {} Try.checked os 6 .any (Rows.fnLineWordsSpec.pre6 enc Try.prog Try.f6 Rows.fnLineWordsRow.domain false) (Rows.fnLineWordsSpec.post enc Try.prog Try.f6 false true false false) := by
  refine returnsInHanded_of_change (C := Try.checked) own started (by kernel_rfl) Try.func6
    (ChangeSpec.witness6 (enc := enc) (C := Try.checked) false ⟨#[], #[.slice none 0 0], []⟩ 8 (by kernel_rfl) (by kernel_rfl) (by kernel_rfl) (by kernel_rfl)) ?_
  intro W base args ds gs before hval0 hW hcnd _
  have hval : ∀ (j : Nat) t v, Try.f6.params[j]? = some t → args[j]? = some v → Value.okWide Try.prog W .any base t v := hval0
  have hW' := hW
  obtain ⟨p, q, hA0, hV, rfl, hfz, hnd⟩ := hW
  have hA : DataW.TrodAll enc Try.prog W 0 (fun _ => true) true Try.f6.params.toList args.toList ds p := hA0
  rw [Try.params6] at hA hval
  obtain ⟨v0, vs0, d0, ds0, p0, q0, hargs, rfl, rfl, h0, r0⟩ := trodAll_cons hA
  obtain ⟨rfl, rfl, rfl⟩ := trodAll_nil r0
  obtain rfl : args = #[v0] := by cases args; simp_all
  obtain ⟨rfl, rfl⟩ := trodVars_none hV
  obtain ⟨a0, len0, cap0, rfl⟩ := okWide_slice Try.underlying27 (hval 0 27 v0 rfl rfl)
  have k0 := h0
  have lt0 : ∀ x ∈ p0, x.block < W.heap.size := by obtain ⟨m, hm⟩ := k0; exact DataW.trod_lt m _ _ _ hm
  obtain ⟨w0, m0⟩ : BytesR W a0 len0 ∧ len0 ≤ maxLen := by
    obtain ⟨fuel, hf⟩ := h0
    rcases open_ints Try.underlying27 Try.underlying5 (by kernel_rfl) hf with ⟨hcs, _⟩ | ⟨x, l, c, zs, hcs, _, hl, hm, hz, _, hcell, hwz⟩
    · simp [Value.cells] at hcs
      obtain ⟨rfl, rfl, rfl⟩ := hcs
      exact ⟨fun i hi => absurd hi (Nat.not_lt_zero _), Nat.zero_le _⟩
    · simp [Value.cells] at hcs
      obtain ⟨rfl, rfl, rfl⟩ := hcs
      exact ⟨BytesR.of_cells hl (by simpa using hz) hcell hwz, Nat.le_trans hl hm⟩
  clear hA0 hval0
  refine (walk W a0 len0 cap0 w0 m0).mono fun e W' ⟨he, bel⟩ => ?_
  subst he
  exact ⟨_, rfl, _, _, _, [], _, [], hW', trodAll_mk1 (shut_bool Try.underlying4 _), (trodAll_cons_mk (Below.trod laidOut (by kernel_rfl) (of_decide_eq_true (by kernel_rfl)) k0 bel lt0) trodAll_mk0), rfl, bel.frame _, fun h => by cases h⟩

theorem own_facts : joinedFacts Try.prog 6 Try.f6 Rows.fnLineWordsSpec Rows.fnLineWordsRow = true :=
  facts_of 6 Try.f6 Rows.fnLineWordsSpec Rows.fnLineWordsRow (by as_aux_lemma => kernel_rfl) (by as_aux_lemma => kernel_rfl) (by as_aux_lemma => kernel_rfl) rfl rfl
    (by as_aux_lemma => kernel_rfl) (by as_aux_lemma => kernel_rfl) (by as_aux_lemma => kernel_rfl) (by as_aux_lemma => kernel_rfl)
    (by as_aux_lemma => kernel_rfl) (by as_aux_lemma => kernel_rfl) (by as_aux_lemma => kernel_rfl) (by as_aux_lemma => kernel_rfl) (by as_aux_lemma => kernel_rfl)
    (by as_aux_lemma => kernel_rfl) (by as_aux_lemma => kernel_rfl) (by as_aux_lemma => kernel_rfl) (by as_aux_lemma => kernel_rfl)
    rfl rfl rfl rfl (by as_aux_lemma => kernel_rfl) (by as_aux_lemma => kernel_rfl) (by as_aux_lemma => kernel_rfl) (by as_aux_lemma => kernel_rfl)
theorem over : Rows.fnLineWordsRow.holds Try.pinned (OpenSpec.ofChange Rows.fnLineWordsSpec) :=
  OpenClaim.holds_of_wide 6 Try.f6 rfl rfl rfl rfl rfl rfl rfl ⟨rfl, rfl, rfl, rfl, rfl⟩ rfl rfl rfl rfl rfl (by as_aux_lemma => kernel_rfl) Try.func6 own_facts
    (of_decide_eq_true (by as_aux_lemma => kernel_rfl)) (by unfold Func.isWrapper; first | (rw [if_pos (by decide +kernel)]; kernel_rfl) | (rw [if_neg (by decide +kernel)]; exact ⟨rfl, rfl⟩))
    (fun os started H enc _ => lifted os started H enc)

theorem proved : Rows.FnLineWordsSaid := over
#print axioms proved
end Go.Proofs.Ytnfkkkjookfdiaa.fnLineWords
