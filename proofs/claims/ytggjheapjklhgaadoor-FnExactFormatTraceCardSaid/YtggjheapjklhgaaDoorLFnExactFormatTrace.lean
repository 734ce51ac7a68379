/- The law 'FnExactFormatTrace', its tied card: for every input the program's function and the reference's agree, so the call returns true and leaves its arguments as they were. The listed tables read as their texts lay them: tied to the program's text. -/
import Derived.Test.YtggjheapjklhgaaDoorRows
import Derived.Test.YtggjheapjklhgaaDoorCards
import Derived.Test.YtggjheapjklhgaaDoorTie
import Derived.Test.YtggjheapjklhgaaDoorHead
import Derived.Test.YtggjheapjklhgaaDoorTxO
import Derived.WalkKit
import Derived.ProofKit
import Derived.OpenShut
import Derived.ShutString
import Derived.ChangeOld
import Derived.Below
import Derived.LaidMore
import Derived.LaidHandle
import Derived.Stop.Joined
import Derived.SevenTiedAt
namespace Go.Proofs.YtggjheapjklhgaaDoor.fnExactFormatTrace
open Go.ChangeShapes Go.WideShapes Go.ChangeAt Go.RowKit
set_option linter.unusedVariables false

theorem own : ownKnob Tryd.prog.godebug = none := by kernel_rfl
theorem laidOut : laidOutB Tryd.prog = true := by kernel_rfl


set_option maxHeartbeats 4000000 in
set_option maxRecDepth 100000 in
theorem walk (w : World) (E : EvsE) (hE : ArgEvs w E) (hI : TimesIn E.es) (hT : Tab w) :
    Calls Tryd.prog 3 #[.slice E.a E.n E.c] w fun e w' => e = .returned (.bool true) ∧ Below w.heap.size w w' := by
  by_cases hsz : (E.n : Int) ≤ 1048576
  · have HA := hid hE
    have HTI := hid hI
    have HTB := hid hT
    have hn : E.n ≤ 1048576 := by omega
    have HNM := hid hn
    have HSM := hid (show E.es.length ≤ 1048576 by rw [← HA.out.reads.len]; exact hn)
    have HT := hid (szT_yes hsz)
    have h0 : (0 : Int) ≤ 1048576 - E.n := by omega
    generalize hleft : (1048576 : Int) - E.n = left at h0 HT
    have hdl : decide (left < 0) = false := by simp; omega
    clear hE hI hT hleft hn
    go_enter Tryd.func3, Tryd.ntmps3
    go_wp2_with fail
    refine (szEventS_any E _ _ HA.out.max (by omega) (by omega)).mono ?_
    rintro e w1 ⟨rfl, B1⟩
    rw [HT.out]
    have HB1 := hid B1
    clear B1
    go_wp2_with fail
    refine (toEventSE_any E _ (HA.out.reads.old HB1.out) HSM.out).mono ?_
    rintro e w2 ⟨A', rfl, O, D0, N0, B⟩
    have HB2 := hid (below_step HB1.out B (Nat.le_refl _))
    have HOA := hid O
    have HDA := hid D0
    have HNA := hid N0
    clear B O D0 N0
    go_wp2_with fail
    refine (specFormatTrace_any A' _ HOA.out.reads (by rw [HNA.out]; exact HNM.out) (by rw [show A'.es = E.es from HDA.out]; exact HTI.out)).mono ?_
    rintro e w3 ⟨rfl, B⟩
    rw [show A'.es = E.es from HDA.out]
    have HB3 := hid (below_step HB2.out B (Nat.le_refl _))
    clear B HOA HDA HNA
    go_wp2_with fail
    refine (toEventSE_any E _ (HA.out.reads.old HB3.out) HSM.out).mono ?_
    rintro e w4 ⟨X, rfl, O, D0, N0, B⟩
    have HB4 := hid (below_step HB3.out B (Nat.le_refl _))
    have HOX := hid O
    have HDX := hid D0
    have HNX := hid N0
    clear B O D0 N0
    go_wp2_with fail
    refine (implFormatTrace_any X _ HOX.out.reads (by rw [HNX.out]; exact HNM.out) (by rw [show X.es = E.es from HDX.out]; exact HTI.out) (tab_below HTB.out HB4.out)).mono ?_
    rintro e w5 ⟨rfl, B⟩
    rw [show X.es = E.es from HDX.out]
    have HB5 := hid (below_step HB4.out B (Nat.le_refl _))
    have HOX := hid (HOX.out.old B)
    clear B
    generalize trText E.es = tx
    go_wp2_with fail
    refine (toEventSE_any E _ (HA.out.reads.old HB5.out) HSM.out).mono ?_
    rintro e w6 ⟨Y, rfl, O, D0, N0, B⟩
    have HB6 := hid (below_step HB5.out B (Nat.le_refl _))
    have HOX := hid (HOX.out.old B)
    have HOY := hid O
    have HDY := hid D0
    clear B O D0 N0
    go_wp2_with fail
    refine (eqEventSE_same X Y _ HOX.out.reads HOY.out.reads (by rw [HDX.out, HDY.out]) (by rw [show X.es = E.es from HDX.out]; exact HSM.out)).mono ?_
    rintro e w7 ⟨rfl, B⟩
    have HB7 := hid (below_step HB6.out B (Nat.le_refl _))
    clear B
    go_wp2_with fail
    go_ret
    exact ⟨rfl, HB7.out⟩
  · have HA := hid hE
    have hs : szT 1048576 E.n = -1 := szT_no (by omega)
    have HS := hid hs
    clear hE hI hT hs
    go_enter Tryd.func3, Tryd.ntmps3
    go_wp2_with fail
    refine (szEventS_any E _ _ HA.out.max (by omega) (by omega)).mono ?_
    rintro e w1 ⟨rfl, B1⟩
    rw [HS.out]
    go_wp2_with fail
    go_ret
    exact ⟨rfl, B1⟩

set_option maxRecDepth 100000 in
theorem lifted (os : Os) (started : os.Started) (H : Type) (enc : TypeId × Value → H) :
    ReturnsInHanded {} Tryd.checked os 3 .any (fun w args => (Rows.fnExactFormatTraceSpec.pre enc Tryd.prog Tryd.f3 [] false w args ∧ laidMetH Tryd.prog laid3 w) ∧ sizedMet enc Tryd.prog Tryd.f3 (OpenSpec.ofChange Rows.fnExactFormatTraceSpec) false w args)
      (Rows.fnExactFormatTraceSpec.post enc Tryd.prog Tryd.f3 false true false false) := by
  refine returnsInHanded_of_change_and (C := Tryd.checked) (X := fun w _ => laidMetH Tryd.prog laid3 w) (fun _ _ _ hh h => h.of_heap hh) own started (by kernel_rfl) Tryd.func3
    (ChangeSpec.witness_shaped (enc := enc) (C := Tryd.checked) (os := os) (X := fun w _ => laidMetH Tryd.prog laid3 w) false (World.doorLaid Tryd.prog 400 os) #[.slice none 0 0] 8 rfl (World.shaped_of_RefB (by kernel_rfl) (by kernel_rfl)) (by kernel_rfl) (by kernel_rfl) (by kernel_rfl) (door_met os _)) ?_
  intro W base args ds gs before hval0 hW hcnd _ hL _
  have hval : ∀ (j : Nat) t v, Tryd.f3.params[j]? = some t → args[j]? = some v → Value.okWide Tryd.prog W .any base t v := hval0
  have hW' := hW
  obtain ⟨p, q, hA0, hV, rfl, hfz, hnd⟩ := hW
  have hA : DataW.TrodAll enc Tryd.prog W 0 (fun _ => true) true Tryd.f3.params.toList args.toList ds p := hA0
  rw [Tryd.params3] at hA hval
  obtain ⟨v0, vs0, d0, ds0, p0, q0, hargs, rfl, rfl, h0, r0⟩ := trodAll_cons hA
  obtain ⟨rfl, rfl, rfl⟩ := trodAll_nil r0
  obtain rfl : args = #[v0] := by cases args; simp_all
  obtain ⟨rfl, rfl⟩ := trodVars_none hV
  have k0 := h0
  have lt0 : ∀ x ∈ p0, x.block < W.heap.size := by obtain ⟨m, hm⟩ := k0; exact DataW.trod_lt m _ _ _ hm
  obtain ⟨E, rfl, hArg, hTim⟩ := open_events_t (hval 0 22 v0 rfl rfl) h0
  clear hA0 hval0
  refine (walk W E hArg hTim (tab_of_laid hL)).mono fun e W' ⟨he, bel⟩ => ?_
  subst he
  exact ⟨_, rfl, _, _, _, [], _, [], hW', trodAll_mk1 (shut_bool Tryd.underlying4 _), (trodAll_cons_mk (Below.trod laidOut (by kernel_rfl) (of_decide_eq_true (by kernel_rfl)) k0 bel lt0) trodAll_mk0), rfl, bel.frame _, fun h => by cases h⟩

theorem own_facts : joinedFacts Tryd.prog 3 Tryd.f3 Rows.fnExactFormatTraceSpec Rows.fnExactFormatTraceRow = true :=
  facts_of 3 Tryd.f3 Rows.fnExactFormatTraceSpec Rows.fnExactFormatTraceRow (by as_aux_lemma => kernel_rfl) (by as_aux_lemma => kernel_rfl) (by as_aux_lemma => kernel_rfl) rfl rfl
    (by as_aux_lemma => kernel_rfl) (by as_aux_lemma => kernel_rfl) (by as_aux_lemma => kernel_rfl) (by as_aux_lemma => kernel_rfl)
    (by as_aux_lemma => kernel_rfl) (by as_aux_lemma => kernel_rfl) (by as_aux_lemma => kernel_rfl) (by as_aux_lemma => kernel_rfl) (by as_aux_lemma => kernel_rfl)
    (by as_aux_lemma => kernel_rfl) (by as_aux_lemma => kernel_rfl) (by as_aux_lemma => kernel_rfl) (by as_aux_lemma => kernel_rfl)
    rfl rfl rfl rfl (by as_aux_lemma => kernel_rfl) (by as_aux_lemma => kernel_rfl) (by as_aux_lemma => kernel_rfl) (by as_aux_lemma => kernel_rfl)
theorem over : Rows.fnExactFormatTraceRow.holds Tryd.pinned (OpenSpec.ofChange Rows.fnExactFormatTraceSpec) :=
  OpenClaim.holds_of_wide 3 Tryd.f3 rfl rfl rfl rfl rfl rfl rfl ⟨rfl, rfl, rfl, rfl, rfl⟩ rfl rfl rfl rfl rfl (by as_aux_lemma => kernel_rfl) Tryd.func3 own_facts
    (of_decide_eq_true (by as_aux_lemma => kernel_rfl)) (by unfold Func.isWrapper; first | (rw [if_pos (by decide +kernel)]; kernel_rfl) | (rw [if_neg (by decide +kernel)]; exact ⟨rfl, rfl⟩))
    (fun os started H enc _ => lifted os started H enc)
theorem said : Rows.FnExactFormatTraceSaid := over

/-- THE TIED CARD. -/
theorem proved : Rows.FnExactFormatTraceCardSaid :=
  Claim7.holds_tied_plain_at .later [] [.data, .data, .data] true (true, "5f1b98a505da31d3cf722511ab1c26b5f9d369cb1988fb4d8e5d96087cc6231c") false
    said (fun _ h => by cases h) (by kernel_rfl) (fun _ h => by cases h) fnExactFormatTrace_row_tie rfl ⟨rfl, rfl⟩ (by kernel_rfl) rfl
    (fun f fn hf hfn => by
      obtain rfl : f = 3 := Option.some.inj ((show Tryd.prog.funcNamed "loop.example/g00977/laws.FnExactFormatTrace" = some 3 by kernel_rfl).symm.trans hf) |>.symm
      obtain rfl : fn = Tryd.f3 := (Option.some.inj (Tryd.func3.symm.trans hfn)).symm
      exact ⟨by kernel_rfl, fun j t ht => by
        rw [Tryd.params3] at ht
        have hm : t ∈ [22] := by simpa using Array.mem_of_getElem? ht
        have hall : ([22].all fun u => !Tryd.prog.wantsStandIn u) = true := by kernel_rfl
        exact (show Tryd.prog.wantsStandIn t = false by simpa using List.all_eq_true.1 hall t hm)⟩)
    (by kernel_rfl)
#print axioms proved
end Go.Proofs.YtggjheapjklhgaaDoor.fnExactFormatTrace
