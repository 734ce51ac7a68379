/- The law 'FnExactGap': for every input the program's function and the reference's agree, so the call returns true and leaves its arguments as they were; no condition. -/
import Derived.Test.YtdhfkhpdehgfaaaRows
import Derived.Test.YtdhfkhpdehgfaaaHead
import Derived.Test.YtdhfkhpdehgfaaaGapG
import Derived.Test.YtdhfkhpdehgfaaaTimT
import Derived.Test.YtdhfkhpdehgfaaaEvtW
import Derived.Test.YtdhfkhpdehgfaaaAdrW
import Derived.Test.YtdhfkhpdehgfaaaOpenT
import Derived.WalkKit
import Derived.ProofKit
import Derived.OpenShut
import Derived.ShutString
import Derived.ChangeOld
import Derived.Below
namespace Go.Proofs.Ytdhfkhpdehgfaaa.fnExactGap
open Go.ChangeShapes Go.WideShapes Go.ChangeAt Go.RowKit
set_option linter.unusedVariables false

theorem own : ownKnob Try.prog.godebug = none := by kernel_rfl
theorem laidOut : laidOutB Try.prog = true := by kernel_rfl

structure BoxL4 (W : World) (b : Nat) (G : Geo) (T : Tim) (A B : Cmd) : Prop where
  g : BoxG W b G
  t : BoxT W (b + 1) T
  a : BoxC W (b + 1 + 1) A
  c : BoxC W (b + 1 + 1 + 1) B
theorem BoxL4.new (w : World) (G : Geo) (T : Tim) (A B : Cmd) : BoxL4 ((((w.alloc (.cells #[.int .i64 G.a, .int .i64 G.b, .int .i64 G.r, .int .i64 G.c] 34)).alloc (.cells #[.int .i64 T.t0, .int .i64 T.t1, .int .i64 T.t2, .int .i64 T.t3, .int .i64 T.t4, .int .i64 T.t5, .int .i64 T.t6, .int .i64 T.t7, .int .i64 T.t8, .int .i64 T.t9, .int .i64 T.t10, .int .i64 T.t11, .int .i64 T.t12, .int .i64 T.t13, .int .i64 T.t14, .int .i64 T.t15, .int .i64 T.t16] 72)).alloc (.cells #[.int .i64 A.k, .int .i64 A.b, .int .i64 A.r, .int .i64 A.c] 77)).alloc (.cells #[.int .i64 B.k, .int .i64 B.b, .int .i64 B.r, .int .i64 B.c] 77)) w.heap.size G T A B :=
  ⟨(((BoxG.new_ w _ G rfl).old (below_alloc _ _)).old (below_alloc _ _)).old (below_alloc _ _), ((BoxT.new_ (w.alloc _) _ T (by simp)).old (below_alloc _ _)).old (below_alloc _ _), (BoxC.new_ ((w.alloc _).alloc _) _ A (by simp)).old (below_alloc _ _), BoxC.new_ (((w.alloc _).alloc _).alloc _) _ B (by simp)⟩
theorem BoxL4.old {w w' : World} {b : Nat} {G : Geo} {T : Tim} {A B : Cmd} (h : BoxL4 w b G T A B) (hb : Below w.heap.size w w') : BoxL4 w' b G T A B := ⟨h.g.old hb, h.t.old hb, h.a.old hb, h.c.old hb⟩

set_option maxRecDepth 100000 in
theorem walk (w : World) (G : Geo) (T : Tim) (A : Cmd) (B : Cmd) :
    Calls Try.prog 14 #[.agg #[.int .i64 G.a, .int .i64 G.b, .int .i64 G.r, .int .i64 G.c], .agg #[.int .i64 T.t0, .int .i64 T.t1, .int .i64 T.t2, .int .i64 T.t3, .int .i64 T.t4, .int .i64 T.t5, .int .i64 T.t6, .int .i64 T.t7, .int .i64 T.t8, .int .i64 T.t9, .int .i64 T.t10, .int .i64 T.t11, .int .i64 T.t12, .int .i64 T.t13, .int .i64 T.t14, .int .i64 T.t15, .int .i64 T.t16], .agg #[.int .i64 A.k, .int .i64 A.b, .int .i64 A.r, .int .i64 A.c], .agg #[.int .i64 B.k, .int .i64 B.b, .int .i64 B.r, .int .i64 B.c]] w fun e w' => e = .returned (.bool true) ∧ Below w.heap.size w w' := by
  obtain ⟨r, hr⟩ : ∃ r, gapAll G T A B = r := ⟨_, rfl⟩
  have HR := hid hr
  clear hr
  have hrr : (r != r) = false := by simp
  go_enter Try.func14, Try.ntmps14
  go_wp2_with fail
  refine wp_world (fun W hw => ?_)
  have HN : Hid (BoxL4 W w.heap.size G T A B) := by rw [hw.out]; exact hid (BoxL4.new w G T A B)
  have HB : Hid (Below w.heap.size w W) := by rw [hw.out]; exact hid (below_allocs4 _ _ _ _ _)
  clear hw
  obtain ⟨_, g0, g1, g2, g3⟩ := HN.out.g
  obtain ⟨_, a0, a1, a2, a3⟩ := HN.out.a
  obtain ⟨_, b0, b1, b2, b3⟩ := HN.out.c
  have hov := over_cell W
  refine wp_region_over (by kernel_rfl) (by kernel_rfl) ?_
  repeat (first
    | (refine wpQuiet_load_timL (by rintro _ ⟨t, rfl⟩; exact HN.out.t.old t.below) rfl _ (by rfl) (by rfl) ?_; simp only [Act.put, List.setIfInBounds_toArray, List.set_cons_succ, List.set_cons_zero])
    | go_big_quiet_step ((first | (go_at_call 21; exact calls_over (toGeometry_any G _)) | (go_at_call 54; exact calls_over (toTiming_any T _)) | (go_at_call 57; exact calls_over (toCommand_any _ _)) | (go_at_call 64; exact calls_over (specGap_any G T A B _)))))
  refine wpQuiet_nil ?_
  intro W2 B2
  have HN := hid (HN.out.old B2)
  have HB := hid (below_step HB.out B2 (Nat.le_refl _))
  rw [HR.out]
  clear hov g0 g1 g2 g3 a0 a1 a2 a3 b0 b1 b2 b3 B2
  go_wp2_with fail
  obtain ⟨_, g0, g1, g2, g3⟩ := HN.out.g
  obtain ⟨_, a0, a1, a2, a3⟩ := HN.out.a
  obtain ⟨_, b0, b1, b2, b3⟩ := HN.out.c
  have hov := over_cell W2
  refine wp_region_over (by kernel_rfl) (by kernel_rfl) ?_
  repeat (first
    | (refine wpQuiet_load_timL (by rintro _ ⟨t, rfl⟩; exact HN.out.t.old t.below) rfl _ (by rfl) (by rfl) ?_; simp only [Act.put, List.setIfInBounds_toArray, List.set_cons_succ, List.set_cons_zero])
    | go_big_quiet_step ((first | (go_at_call 21; exact calls_over (toGeometry_any G _)) | (go_at_call 54; exact calls_over (toTiming_any T _)) | (go_at_call 57; exact calls_over (toCommand_any _ _)) | (go_at_call 62; exact calls_over (implGap_any G T A B _)))))
  refine wpQuiet_nil ?_
  intro W3 B2
  have HB := hid (below_step HB.out B2 (Nat.le_refl _))
  rw [HR.out]
  clear hov g0 g1 g2 g3 a0 a1 a2 a3 b0 b1 b2 b3 B2
  go_wp2_with fail
  go_ret
  exact ⟨rfl, HB.out⟩

set_option maxRecDepth 100000 in
theorem lifted (os : Os) (started : os.Started) (H : Type) (enc : TypeId × Value → H) :
    ReturnsInHanded {} Try.checked os 14 .any (Rows.fnExactGapSpec.pre6 enc Try.prog Try.f14 Rows.fnExactGapRow.domain false) (Rows.fnExactGapSpec.post enc Try.prog Try.f14 false true false false) := by
  refine returnsInHanded_of_change (C := Try.checked) own started (by kernel_rfl) Try.func14
    (ChangeSpec.witness6 (enc := enc) (C := Try.checked) false ⟨#[], #[.agg #[.int .i64 0, .int .i64 0, .int .i64 0, .int .i64 0], .agg #[.int .i64 0, .int .i64 0, .int .i64 0, .int .i64 0, .int .i64 0, .int .i64 0, .int .i64 0, .int .i64 0, .int .i64 0, .int .i64 0, .int .i64 0, .int .i64 0, .int .i64 0, .int .i64 0, .int .i64 0, .int .i64 0, .int .i64 0], .agg #[.int .i64 0, .int .i64 0, .int .i64 0, .int .i64 0], .agg #[.int .i64 0, .int .i64 0, .int .i64 0, .int .i64 0]], []⟩ 8 (by kernel_rfl) (by kernel_rfl) (by kernel_rfl) (by kernel_rfl)) ?_
  intro W base args ds gs before hval0 hW hcnd _
  have hval : ∀ (j : Nat) t v, Try.f14.params[j]? = some t → args[j]? = some v → Value.okWide Try.prog W .any base t v := hval0
  have hW' := hW
  obtain ⟨p, q, hA0, hV, rfl, hfz, hnd⟩ := hW
  have hA : DataW.TrodAll enc Try.prog W 0 (fun _ => true) true Try.f14.params.toList args.toList ds p := hA0
  rw [Try.params14] at hA hval
  obtain ⟨v0, vs0, d0, ds0, p0, q0, hargs, rfl, rfl, h0, r0⟩ := trodAll_cons hA
  obtain ⟨v1, vs1, d1, ds1, p1, q1, rfl, rfl, rfl, h1, r1⟩ := trodAll_cons r0
  obtain ⟨v2, vs2, d2, ds2, p2, q2, rfl, rfl, rfl, h2, r2⟩ := trodAll_cons r1
  obtain ⟨v3, vs3, d3, ds3, p3, q3, rfl, rfl, rfl, h3, r3⟩ := trodAll_cons r2
  obtain ⟨rfl, rfl, rfl⟩ := trodAll_nil r3
  obtain rfl : args = #[v0, v1, v2, v3] := by cases args; simp_all
  obtain ⟨rfl, rfl⟩ := trodVars_none hV
  have k0 := h0
  have lt0 : ∀ x ∈ p0, x.block < W.heap.size := by obtain ⟨m, hm⟩ := k0; exact DataW.trod_lt m _ _ _ hm
  obtain ⟨G, rfl⟩ := open_geo (hval 0 34 v0 rfl rfl) h0
  have k1 := h1
  have lt1 : ∀ x ∈ p1, x.block < W.heap.size := by obtain ⟨m, hm⟩ := k1; exact DataW.trod_lt m _ _ _ hm
  obtain ⟨T, rfl⟩ := open_tim (hval 1 72 v1 rfl rfl) h1
  have k2 := h2
  have lt2 : ∀ x ∈ p2, x.block < W.heap.size := by obtain ⟨m, hm⟩ := k2; exact DataW.trod_lt m _ _ _ hm
  obtain ⟨A, rfl⟩ := open_cmd (hval 2 77 v2 rfl rfl) h2
  have k3 := h3
  have lt3 : ∀ x ∈ p3, x.block < W.heap.size := by obtain ⟨m, hm⟩ := k3; exact DataW.trod_lt m _ _ _ hm
  obtain ⟨B, rfl⟩ := open_cmd (hval 3 77 v3 rfl rfl) h3
  clear hA0 hval0
  refine (walk W G T A B).mono fun e W' ⟨he, bel⟩ => ?_
  subst he
  exact ⟨_, rfl, _, _, _, [], _, [], hW', trodAll_mk1 (shut_bool Try.underlying4 _), (trodAll_cons_mk (Below.trod laidOut (by kernel_rfl) (of_decide_eq_true (by kernel_rfl)) k0 bel lt0) (trodAll_cons_mk (Below.trod laidOut (by kernel_rfl) (of_decide_eq_true (by kernel_rfl)) k1 bel lt1) (trodAll_cons_mk (Below.trod laidOut (by kernel_rfl) (of_decide_eq_true (by kernel_rfl)) k2 bel lt2) (trodAll_cons_mk (Below.trod laidOut (by kernel_rfl) (of_decide_eq_true (by kernel_rfl)) k3 bel lt3) trodAll_mk0)))), rfl, bel.frame _, fun h => by cases h⟩

theorem own_facts : joinedFacts Try.prog 14 Try.f14 Rows.fnExactGapSpec Rows.fnExactGapRow = true :=
  facts_of 14 Try.f14 Rows.fnExactGapSpec Rows.fnExactGapRow (by as_aux_lemma => kernel_rfl) (by as_aux_lemma => kernel_rfl) (by as_aux_lemma => kernel_rfl) rfl rfl
    (by as_aux_lemma => kernel_rfl) (by as_aux_lemma => kernel_rfl) (by as_aux_lemma => kernel_rfl) (by as_aux_lemma => kernel_rfl)
    (by as_aux_lemma => kernel_rfl) (by as_aux_lemma => kernel_rfl) (by as_aux_lemma => kernel_rfl) (by as_aux_lemma => kernel_rfl) (by as_aux_lemma => kernel_rfl)
    (by as_aux_lemma => kernel_rfl) (by as_aux_lemma => kernel_rfl) (by as_aux_lemma => kernel_rfl) (by as_aux_lemma => kernel_rfl)
    rfl rfl rfl rfl (by as_aux_lemma => kernel_rfl) (by as_aux_lemma => kernel_rfl) (by as_aux_lemma => kernel_rfl) (by as_aux_lemma => kernel_rfl)
theorem over : Rows.fnExactGapRow.holds Try.pinned (OpenSpec.ofChange Rows.fnExactGapSpec) :=
  OpenClaim.holds_of_wide 14 Try.f14 rfl rfl rfl rfl rfl rfl rfl ⟨rfl, rfl, rfl, rfl, rfl⟩ rfl rfl rfl rfl rfl (by as_aux_lemma => kernel_rfl) Try.func14 own_facts
    (of_decide_eq_true (by as_aux_lemma => kernel_rfl)) (by unfold Func.isWrapper; first | (rw [if_pos (by decide +kernel)]; kernel_rfl) | (rw [if_neg (by decide +kernel)]; exact ⟨rfl, rfl⟩))
    (fun os started H enc _ => lifted os started H enc)

theorem proved : Rows.FnExactGapSaid := over
#print axioms proved
end Go.Proofs.Ytdhfkhpdehgfaaa.fnExactGap
