/- The law 'FnExactRowDecayed': for every input the program's function and the reference's agree, so the call returns true and leaves its arguments as they were; no condition. -/
import Derived.Test.YtnfkkkjookfdiaaRows
import Derived.Test.YtnfkkkjookfdiaaHead
import Derived.Test.YtnfkkkjookfdiaaRowW
import Derived.WalkKit
import Derived.ProofKit
import Derived.OpenShut
import Derived.ShutString
import Derived.ChangeOld
import Derived.Below
namespace Go.Proofs.Ytnfkkkjookfdiaa.fnExactRowDecayed
open Go.ChangeShapes Go.WideShapes Go.ChangeAt Go.RowKit
set_option linter.unusedVariables false

theorem own : ownKnob Try.prog.godebug = none := by kernel_rfl
theorem laidOut : laidOutB Try.prog = true := by kernel_rfl


set_option maxRecDepth 100000 in
theorem walk (w : World) (G : Geo) (la lh : Int) (A : ArrE) (hA : ArgArr w A) (a3 : Int) (w3 : (Lit.int .i64 a3).wf = true) (a4 : Int) (w4 : (Lit.int .i64 a4).wf = true) :
    Calls Try.prog 7 #[.agg #[.int .i64 G.a, .int .i64 G.b, .int .i64 G.r, .int .i64 G.c], .agg #[.int .i64 la, .int .i64 lh], .agg #[.slice A.s0.a A.s0.n A.s0.c, .slice A.s1.a A.s1.n A.s1.c, .slice A.s2.a A.s2.n A.s2.c], .int .i64 a3, .int .i64 a4] w fun e w' => e = .returned (.bool true) ∧ Below w.heap.size w w' := by
  by_cases hsz : (A.d.tot : Int) ≤ 1048576
  · have hs := small_of hsz
    have HA := hid hA
    have HS := hid hs
    have HT := hid (szT_yes hsz)
    have h0 : (0 : Int) ≤ 1048576 - A.d.tot := by omega
    generalize (1048576 : Int) - A.d.tot = left at h0 HT
    have hdl : decide (left < 0) = false := by simp; omega
    clear hA hs
    go_enter Try.func7, Try.ntmps7
    go_wp2_with fail
    refine (szArray_any A _ _ (((HA.out.reads.old (below_alloc _ _)).old (below_alloc _ _)).old (below_alloc _ _)) HA.out.ns HA.out.n0 HA.out.n1 HA.out.n2 (by omega) (by omega)).mono ?_
    rintro e w1 ⟨rfl, B1⟩
    rw [HT.out]
    have HB := hid (below_step (below_alloc3 _ _ _ _) B1 (Nat.le_refl _))
    have HXG := hid ((((BoxG.new_ w 31 G (show _ = w.heap.size by simp)).old (below_alloc _ _)).old (below_alloc _ _)).old B1)
    have HXL := hid (((BoxL.new_ (w.alloc _) 50 la lh (show _ = w.heap.size + 1 by simp)).old (below_alloc _ _)).old B1)
    have HXA := hid ((BoxR.new_ ((w.alloc _).alloc _) 34 A (show _ = w.heap.size + 1 + 1 by simp)).old B1)
    have HR := hid (HA.out.reads.old HB.out)
    clear B1
    go_wp2_with fail
    refine grows_of (fr := ?fr1)
      (fun i v w' => match i with
          | 0 => v = .agg #[.int .i64 G.a, .int .i64 G.b, .int .i64 G.r, .int .i64 G.c]
          | 1 => v = .agg #[.int .i64 G.a, .int .i64 G.b, .int .i64 G.r, .int .i64 G.c]
          | 2 => v = .agg #[.int .i64 la, .int .i64 lh]
          | 3 => v = .agg #[.int .i64 la, .int .i64 lh]
          | 4 => v = .agg #[.slice A.s0.a A.s0.n A.s0.c, .slice A.s1.a A.s1.n A.s1.c, .slice A.s2.a A.s2.n A.s2.c]
          | 5 => ∃ (A' : ArrE) (U : Nat), v = .agg #[.slice A'.s0.a A'.s0.n A'.s0.c, .slice A'.s1.a A'.s1.n A'.s1.c, .slice A'.s2.a A'.s2.n A'.s2.c] ∧ OwnA w' w1.heap.size U A' ∧ A'.d = A.d
          | 6 => v = .int .i64 a3
          | 7 => v = .int .i64 a4
          | 8 => v = .bool (rowGone G la lh A.d a3 a4)
          | _ => v = .bool (rowGone G la lh A.d a3 a4)) (by kernel_rfl) (by kernel_rfl) ?hfr1 ⟨fun _ => undef, ?h01⟩ ?hF1 ?hstep1 ?hend1
    case hfr1 => intro vs; simp only [frOf]; go_simp; exact rfl
    case h01 => rfl
    case hF1 =>
      intro i v w' w'' h hb
      match i, h with
      | 0, h => exact h
      | 1, h => exact h
      | 2, h => exact h
      | 3, h => exact h
      | 4, h => exact h
      | 5, h => obtain ⟨A', U, e, o, d⟩ := h; exact ⟨A', U, e, o.old hb, d⟩
      | 6, h => exact h
      | 7, h => exact h
      | 8, h => exact h
      | n + 9, h => exact h
    case hstep1 =>
      intro vs w' i o ho hb hd
      match i, ho with
      | 0, ho =>
        simp only [List.getElem?_cons_zero, Option.some.injEq] at ho
        subst ho
        refine ⟨wanted_none rfl, ?_⟩
        have c0 := (HXG.out.old hb).c0
        have c1 := (HXG.out.old hb).c1
        have c2 := (HXG.out.old hb).c2
        have c3 := (HXG.out.old hb).c3
        generalize hK : (fun (a' : Act) (w'' : World) => ∃ v : Value, _ ∧ _ ∧ _) = K
        go_simp
        rw [← hK]
        exact ⟨_, rfl, rfl, Below.refl _ _⟩
      | 1, ho =>
        simp only [List.getElem?_cons_succ, List.getElem?_cons_zero, Option.some.injEq] at ho
        subst ho
        refine ⟨wanted_none rfl, ?_⟩
        have e0 : Hid (vs 0 = .agg #[.int .i64 G.a, .int .i64 G.b, .int .i64 G.r, .int .i64 G.c]) := hd 0 (by kernel_rfl)
        generalize hK : (fun (a' : Act) (w'' : World) => ∃ v : Value, _ ∧ _ ∧ _) = K
        go_simp
        refine (calls_args (by rw [e0.out]) (toGeometry_any G _)).mono ?_
        rintro e w2 ⟨rfl, B⟩
        rw [← hK]
        exact ⟨_, rfl, rfl, B⟩
      | 2, ho =>
        simp only [List.getElem?_cons_succ, List.getElem?_cons_zero, Option.some.injEq] at ho
        subst ho
        refine ⟨wanted_none rfl, ?_⟩
        have c0 := (HXL.out.old hb).c0
        have c1 := (HXL.out.old hb).c1
        generalize hK : (fun (a' : Act) (w'' : World) => ∃ v : Value, _ ∧ _ ∧ _) = K
        go_simp
        rw [← hK]
        exact ⟨_, rfl, rfl, Below.refl _ _⟩
      | 3, ho =>
        simp only [List.getElem?_cons_succ, List.getElem?_cons_zero, Option.some.injEq] at ho
        subst ho
        refine ⟨wanted_none rfl, ?_⟩
        have e0 : Hid (vs 2 = .agg #[.int .i64 la, .int .i64 lh]) := hd 2 (by kernel_rfl)
        generalize hK : (fun (a' : Act) (w'' : World) => ∃ v : Value, _ ∧ _ ∧ _) = K
        go_simp
        refine (calls_args (by rw [e0.out]) (toLimits_any la lh _)).mono ?_
        rintro e w2 ⟨rfl, B⟩
        rw [← hK]
        exact ⟨_, rfl, rfl, B⟩
      | 4, ho =>
        simp only [List.getElem?_cons_succ, List.getElem?_cons_zero, Option.some.injEq] at ho
        subst ho
        refine ⟨wanted_none rfl, ?_⟩
        have c0 := (HXA.out.old hb).c0
        have c1 := (HXA.out.old hb).c1
        have c2 := (HXA.out.old hb).c2
        generalize hK : (fun (a' : Act) (w'' : World) => ∃ v : Value, _ ∧ _ ∧ _) = K
        go_simp
        rw [← hK]
        exact ⟨_, rfl, rfl, Below.refl _ _⟩
      | 5, ho =>
        simp only [List.getElem?_cons_succ, List.getElem?_cons_zero, Option.some.injEq] at ho
        subst ho
        refine ⟨wanted_none rfl, ?_⟩
        have e0 : Hid (vs 4 = .agg #[.slice A.s0.a A.s0.n A.s0.c, .slice A.s1.a A.s1.n A.s1.c, .slice A.s2.a A.s2.n A.s2.c]) := hd 4 (by kernel_rfl)
        generalize hK : (fun (a' : Act) (w'' : World) => ∃ v : Value, _ ∧ _ ∧ _) = K
        go_simp
        refine (calls_args (by rw [e0.out]) (toArray_any A _ (HR.out.old hb) HS.out)).mono ?_
        rintro e w2 ⟨A', rfl, O, D0, B⟩
        rw [← hK]
        exact ⟨_, rfl, ⟨A', _, rfl, O.mono hb.size, D0⟩, B⟩
      | 6, ho =>
        simp only [List.getElem?_cons_succ, List.getElem?_cons_zero, Option.some.injEq] at ho
        subst ho
        refine ⟨wanted_none rfl, ?_⟩
        generalize hK : (fun (a' : Act) (w'' : World) => ∃ v : Value, _ ∧ _ ∧ _) = K
        go_simp
        rw [← hK]
        exact ⟨_, rfl, rfl, Below.refl _ _⟩
      | 7, ho =>
        simp only [List.getElem?_cons_succ, List.getElem?_cons_zero, Option.some.injEq] at ho
        subst ho
        refine ⟨wanted_none rfl, ?_⟩
        generalize hK : (fun (a' : Act) (w'' : World) => ∃ v : Value, _ ∧ _ ∧ _) = K
        go_simp
        rw [← hK]
        exact ⟨_, rfl, rfl, Below.refl _ _⟩
      | 8, ho =>
        simp only [List.getElem?_cons_succ, List.getElem?_cons_zero, Option.some.injEq] at ho
        subst ho
        refine ⟨wanted_none rfl, ?_⟩
        have e1 : Hid (vs 1 = .agg #[.int .i64 G.a, .int .i64 G.b, .int .i64 G.r, .int .i64 G.c]) := hd 1 (by kernel_rfl)
        have e3 : Hid (vs 3 = .agg #[.int .i64 la, .int .i64 lh]) := hd 3 (by kernel_rfl)
        obtain ⟨A', U, ea', O, D0⟩ := hd 5 (by kernel_rfl)
        have ea := hid ea'
        clear ea'
        have e6 : Hid (vs 6 = .int .i64 a3) := hd 6 (by kernel_rfl)
        have e7 : Hid (vs 7 = .int .i64 a4) := hd 7 (by kernel_rfl)
        generalize hK : (fun (a' : Act) (w'' : World) => ∃ v : Value, _ ∧ _ ∧ _) = K
        go_simp
        refine (calls_args (by rw [e1.out, e3.out, ea.out, e6.out, e7.out]) (specRowDecayed_any G la lh A' a3 a4 _ (O.reads) (by rw [D0]; exact HS.out))).mono ?_
        rintro e w2 ⟨rfl, B⟩
        rw [← hK]
        exact ⟨_, rfl, congrArg (fun d => Value.bool (rowGone G la lh d a3 a4)) D0, B⟩
      | 9, ho =>
        simp only [List.getElem?_cons_succ, List.getElem?_cons_zero, Option.some.injEq] at ho
        subst ho
        refine ⟨wanted_none rfl, ?_⟩
        have e0 : Hid (vs 8 = .bool (rowGone G la lh A.d a3 a4)) := hd 8 (by kernel_rfl)
        generalize hK : (fun (a' : Act) (w'' : World) => ∃ v : Value, _ ∧ _ ∧ _) = K
        go_simp
        rw [← hK]
        exact ⟨_, rfl, e0.out, Below.refl _ _⟩
      | n + 10, ho => simp at ho
    case hend1 =>
      intro vs w2 hb hf
      have er : vs 9 = .bool (rowGone G la lh A.d a3 a4) := hf 9 (by decide)
      have HXG := hid (HXG.out.old hb)
      have HXL := hid (HXL.out.old hb)
      have HXA := hid (HXA.out.old hb)
      have HR := hid (HR.out.old hb)
      have HB := hid (below_step HB.out hb (Nat.le_refl _))
      clear hb hf
      generalize vs 9 = ur at er ⊢
      subst er
      generalize hr : rowGone G la lh A.d a3 a4 = r
      have HRr := hid hr
      clear hr
      have c0 := HXA.out.c0
      have c1 := HXA.out.c1
      have c2 := HXA.out.c2
      go_wp2_with fail
      clear c0 c1 c2
      refine (toArray_any A _ HR.out HS.out).mono ?_
      rintro e w3 ⟨X, rfl, OX, DX, B⟩
      have HXG := hid (HXG.out.old B)
      have HXL := hid (HXL.out.old B)
      have HXA := hid (HXA.out.old B)
      have HR := hid (HR.out.old B)
      have HB := hid (below_step HB.out B (Nat.le_refl _))
      have HOX := hid OX
      have HDX := hid DX
      clear B OX DX
      go_wp2_with fail
      refine wp_world (fun w4 hw => ?_)
      have HXX : Hid (BoxV w4 w3.heap.size X) := by rw [hw.out]; exact BoxV.new _ _
      have B : Below w3.heap.size w3 w4 := by rw [hw.out]; exact below_alloc _ _
      have HXG := hid (HXG.out.old B)
      have HXL := hid (HXL.out.old B)
      have HXA := hid (HXA.out.old B)
      have HR := hid (HR.out.old B)
      have HOX := hid (HOX.out.old B)
      have HB := hid (below_step HB.out B (Nat.le_refl _))
      clear B hw
      refine grows_of (fr := ?fr2)
        (fun i v w' => match i with
            | 0 => v = .agg #[.int .i64 G.a, .int .i64 G.b, .int .i64 G.r, .int .i64 G.c]
            | 1 => v = .agg #[.int .i64 G.a, .int .i64 G.b, .int .i64 G.r, .int .i64 G.c]
            | 2 => v = .agg #[.int .i64 la, .int .i64 lh]
            | 3 => v = .agg #[.int .i64 la, .int .i64 lh]
            | 4 => v = .agg #[.slice X.s0.a X.s0.n X.s0.c, .slice X.s1.a X.s1.n X.s1.c, .slice X.s2.a X.s2.n X.s2.c]
            | 5 => v = .int .i64 a3
            | 6 => v = .int .i64 a4
            | 7 => v = .bool (rowGone G la lh A.d a3 a4)
            | _ => v = .bool (rowGone G la lh A.d a3 a4)) (by kernel_rfl) (by kernel_rfl) ?hfr2 ⟨fun _ => undef, ?h02⟩ ?hF2 ?hstep2 ?hend2
      case hfr2 => intro vs; simp only [frOf]; go_simp; exact rfl
      case h02 => rfl
      case hF2 =>
        intro i v w' w'' h hb
        match i, h with
        | 0, h => exact h
        | 1, h => exact h
        | 2, h => exact h
        | 3, h => exact h
        | 4, h => exact h
        | 5, h => exact h
        | 6, h => exact h
        | 7, h => exact h
        | n + 8, h => exact h
      case hstep2 =>
        intro vs w' i o ho hb hd
        match i, ho with
        | 0, ho =>
          simp only [List.getElem?_cons_zero, Option.some.injEq] at ho
          subst ho
          refine ⟨wanted_none rfl, ?_⟩
          have c0 := (HXG.out.old hb).c0
          have c1 := (HXG.out.old hb).c1
          have c2 := (HXG.out.old hb).c2
          have c3 := (HXG.out.old hb).c3
          generalize hK : (fun (a' : Act) (w'' : World) => ∃ v : Value, _ ∧ _ ∧ _) = K
          go_simp
          rw [← hK]
          exact ⟨_, rfl, rfl, Below.refl _ _⟩
        | 1, ho =>
          simp only [List.getElem?_cons_succ, List.getElem?_cons_zero, Option.some.injEq] at ho
          subst ho
          refine ⟨wanted_none rfl, ?_⟩
          have e0 : Hid (vs 0 = .agg #[.int .i64 G.a, .int .i64 G.b, .int .i64 G.r, .int .i64 G.c]) := hd 0 (by kernel_rfl)
          generalize hK : (fun (a' : Act) (w'' : World) => ∃ v : Value, _ ∧ _ ∧ _) = K
          go_simp
          refine (calls_args (by rw [e0.out]) (toGeometry_any G _)).mono ?_
          rintro e w2 ⟨rfl, B⟩
          rw [← hK]
          exact ⟨_, rfl, rfl, B⟩
        | 2, ho =>
          simp only [List.getElem?_cons_succ, List.getElem?_cons_zero, Option.some.injEq] at ho
          subst ho
          refine ⟨wanted_none rfl, ?_⟩
          have c0 := (HXL.out.old hb).c0
          have c1 := (HXL.out.old hb).c1
          generalize hK : (fun (a' : Act) (w'' : World) => ∃ v : Value, _ ∧ _ ∧ _) = K
          go_simp
          rw [← hK]
          exact ⟨_, rfl, rfl, Below.refl _ _⟩
        | 3, ho =>
          simp only [List.getElem?_cons_succ, List.getElem?_cons_zero, Option.some.injEq] at ho
          subst ho
          refine ⟨wanted_none rfl, ?_⟩
          have e0 : Hid (vs 2 = .agg #[.int .i64 la, .int .i64 lh]) := hd 2 (by kernel_rfl)
          generalize hK : (fun (a' : Act) (w'' : World) => ∃ v : Value, _ ∧ _ ∧ _) = K
          go_simp
          refine (calls_args (by rw [e0.out]) (toLimits_any la lh _)).mono ?_
          rintro e w2 ⟨rfl, B⟩
          rw [← hK]
          exact ⟨_, rfl, rfl, B⟩
        | 4, ho =>
          simp only [List.getElem?_cons_succ, List.getElem?_cons_zero, Option.some.injEq] at ho
          subst ho
          refine ⟨wanted_none rfl, ?_⟩
          have c0 := (HXX.out.old hb).c0
          have c1 := (HXX.out.old hb).c1
          have c2 := (HXX.out.old hb).c2
          generalize hK : (fun (a' : Act) (w'' : World) => ∃ v : Value, _ ∧ _ ∧ _) = K
          go_simp
          rw [← hK]
          exact ⟨_, rfl, rfl, Below.refl _ _⟩
        | 5, ho =>
          simp only [List.getElem?_cons_succ, List.getElem?_cons_zero, Option.some.injEq] at ho
          subst ho
          refine ⟨wanted_none rfl, ?_⟩
          generalize hK : (fun (a' : Act) (w'' : World) => ∃ v : Value, _ ∧ _ ∧ _) = K
          go_simp
          rw [← hK]
          exact ⟨_, rfl, rfl, Below.refl _ _⟩
        | 6, ho =>
          simp only [List.getElem?_cons_succ, List.getElem?_cons_zero, Option.some.injEq] at ho
          subst ho
          refine ⟨wanted_none rfl, ?_⟩
          generalize hK : (fun (a' : Act) (w'' : World) => ∃ v : Value, _ ∧ _ ∧ _) = K
          go_simp
          rw [← hK]
          exact ⟨_, rfl, rfl, Below.refl _ _⟩
        | 7, ho =>
          simp only [List.getElem?_cons_succ, List.getElem?_cons_zero, Option.some.injEq] at ho
          subst ho
          refine ⟨wanted_none rfl, ?_⟩
          have e1 : Hid (vs 1 = .agg #[.int .i64 G.a, .int .i64 G.b, .int .i64 G.r, .int .i64 G.c]) := hd 1 (by kernel_rfl)
          have e3 : Hid (vs 3 = .agg #[.int .i64 la, .int .i64 lh]) := hd 3 (by kernel_rfl)
          have ea : Hid (vs 4 = .agg #[.slice X.s0.a X.s0.n X.s0.c, .slice X.s1.a X.s1.n X.s1.c, .slice X.s2.a X.s2.n X.s2.c]) := hd 4 (by kernel_rfl)
          have e5 : Hid (vs 5 = .int .i64 a3) := hd 5 (by kernel_rfl)
          have e6 : Hid (vs 6 = .int .i64 a4) := hd 6 (by kernel_rfl)
          generalize hK : (fun (a' : Act) (w'' : World) => ∃ v : Value, _ ∧ _ ∧ _) = K
          go_simp
          refine (calls_args (by rw [e1.out, e3.out, ea.out, e5.out, e6.out]) (implRowDecayed_any G la lh X a3 a4 _ (HOX.out.reads.old hb) (by rw [HDX.out]; exact HS.out))).mono ?_
          rintro e w2 ⟨rfl, B⟩
          rw [← hK]
          exact ⟨_, rfl, congrArg (fun d => Value.bool (rowGone G la lh d a3 a4)) HDX.out, B⟩
        | 8, ho =>
          simp only [List.getElem?_cons_succ, List.getElem?_cons_zero, Option.some.injEq] at ho
          subst ho
          refine ⟨wanted_none rfl, ?_⟩
          have e0 : Hid (vs 7 = .bool (rowGone G la lh A.d a3 a4)) := hd 7 (by kernel_rfl)
          generalize hK : (fun (a' : Act) (w'' : World) => ∃ v : Value, _ ∧ _ ∧ _) = K
          go_simp
          rw [← hK]
          exact ⟨_, rfl, e0.out, Below.refl _ _⟩
        | n + 9, ho => simp at ho
      case hend2 =>
        intro vs w5 hb hf
        have er2 : vs 8 = .bool (rowGone G la lh A.d a3 a4) := hf 8 (by decide)
        have HXG := hid (HXG.out.old hb)
        have HXL := hid (HXL.out.old hb)
        have HXA := hid (HXA.out.old hb)
        have HR := hid (HR.out.old hb)
        have HOX := hid (HOX.out.old hb)
        have HXX := hid (HXX.out.old hb)
        have HB := hid (below_step HB.out hb (Nat.le_refl _))
        clear hb hf
        rw [HRr.out] at er2
        generalize vs 8 = ur at er2 ⊢
        subst er2
        have hrr : (r != r) = false := by simp
        go_wp2_with fail
        refine grows_of (fr := ?fr3)
          (fun i v w' => match i with
              | 0 => v = .agg #[.slice X.s0.a X.s0.n X.s0.c, .slice X.s1.a X.s1.n X.s1.c, .slice X.s2.a X.s2.n X.s2.c]
              | 1 => v = .agg #[.slice A.s0.a A.s0.n A.s0.c, .slice A.s1.a A.s1.n A.s1.c, .slice A.s2.a A.s2.n A.s2.c]
              | 2 => ∃ (A' : ArrE) (U : Nat), v = .agg #[.slice A'.s0.a A'.s0.n A'.s0.c, .slice A'.s1.a A'.s1.n A'.s1.c, .slice A'.s2.a A'.s2.n A'.s2.c] ∧ OwnA w' w5.heap.size U A' ∧ A'.d = A.d
              | 3 => v = .bool true
              | _ => v = .bool false) (by kernel_rfl) (by kernel_rfl) ?hfr3 ⟨fun _ => undef, ?h03⟩ ?hF3 ?hstep3 ?hend3
        case hfr3 => intro vs; simp only [frOf]; go_simp; exact rfl
        case h03 => rfl
        case hF3 =>
          intro i v w' w'' h hb
          match i, h with
          | 0, h => exact h
          | 1, h => exact h
          | 2, h => obtain ⟨A', U, e, o, d⟩ := h; exact ⟨A', U, e, o.old hb, d⟩
          | 3, h => exact h
          | n + 4, h => exact h
        case hstep3 =>
          intro vs w' i o ho hb hd
          match i, ho with
          | 0, ho =>
            simp only [List.getElem?_cons_zero, Option.some.injEq] at ho
            subst ho
            refine ⟨wanted_none rfl, ?_⟩
            have c0 := (HXX.out.old hb).c0
            have c1 := (HXX.out.old hb).c1
            have c2 := (HXX.out.old hb).c2
            generalize hK : (fun (a' : Act) (w'' : World) => ∃ v : Value, _ ∧ _ ∧ _) = K
            go_simp
            rw [← hK]
            exact ⟨_, rfl, rfl, Below.refl _ _⟩
          | 1, ho =>
            simp only [List.getElem?_cons_succ, List.getElem?_cons_zero, Option.some.injEq] at ho
            subst ho
            refine ⟨wanted_none rfl, ?_⟩
            have c0 := (HXA.out.old hb).c0
            have c1 := (HXA.out.old hb).c1
            have c2 := (HXA.out.old hb).c2
            generalize hK : (fun (a' : Act) (w'' : World) => ∃ v : Value, _ ∧ _ ∧ _) = K
            go_simp
            rw [← hK]
            exact ⟨_, rfl, rfl, Below.refl _ _⟩
          | 2, ho =>
            simp only [List.getElem?_cons_succ, List.getElem?_cons_zero, Option.some.injEq] at ho
            subst ho
            refine ⟨wanted_none rfl, ?_⟩
            have e0 : Hid (vs 1 = .agg #[.slice A.s0.a A.s0.n A.s0.c, .slice A.s1.a A.s1.n A.s1.c, .slice A.s2.a A.s2.n A.s2.c]) := hd 1 (by kernel_rfl)
            generalize hK : (fun (a' : Act) (w'' : World) => ∃ v : Value, _ ∧ _ ∧ _) = K
            go_simp
            refine (calls_args (by rw [e0.out]) (toArray_any A _ (HR.out.old hb) HS.out)).mono ?_
            rintro e w2 ⟨A', rfl, O, D0, B⟩
            rw [← hK]
            exact ⟨_, rfl, ⟨A', _, rfl, O.mono hb.size, D0⟩, B⟩
          | 3, ho =>
            simp only [List.getElem?_cons_succ, List.getElem?_cons_zero, Option.some.injEq] at ho
            subst ho
            refine ⟨wanted_none rfl, ?_⟩
            have e0 : Hid (vs 0 = .agg #[.slice X.s0.a X.s0.n X.s0.c, .slice X.s1.a X.s1.n X.s1.c, .slice X.s2.a X.s2.n X.s2.c]) := hd 0 (by kernel_rfl)
            obtain ⟨A', U, ea', O, D0⟩ := hd 2 (by kernel_rfl)
            have ea := hid ea'
            clear ea'
            generalize hK : (fun (a' : Act) (w'' : World) => ∃ v : Value, _ ∧ _ ∧ _) = K
            go_simp
            refine (calls_args (by rw [e0.out, ea.out]) (eqArray_same X A' _ (HOX.out.reads.old hb) O.reads (by rw [HDX.out, D0]) (by rw [HDX.out]; exact HS.out))).mono ?_
            rintro e w2 ⟨rfl, B⟩
            rw [← hK]
            exact ⟨_, rfl, rfl, B⟩
          | 4, ho =>
            simp only [List.getElem?_cons_succ, List.getElem?_cons_zero, Option.some.injEq] at ho
            subst ho
            refine ⟨wanted_none rfl, ?_⟩
            have e3 : vs 3 = .bool true := hd 3 (by kernel_rfl)
            generalize hK : (fun (a' : Act) (w'' : World) => ∃ v : Value, _ ∧ _ ∧ _) = K
            go_simp
            rw [← hK]
            exact ⟨_, by simp [upd, e3], rfl, Below.refl _ _⟩
          | n + 5, ho => simp at ho
        case hend3 =>
          intro vs w6 hb hf
          have er3 : vs 4 = .bool false := hf 4 (by decide)
          have HXG := hid (HXG.out.old hb)
          have HXL := hid (HXL.out.old hb)
          have HXA := hid (HXA.out.old hb)
          have HR := hid (HR.out.old hb)
          have HOX := hid (HOX.out.old hb)
          have HXX := hid (HXX.out.old hb)
          have HB := hid (below_step HB.out hb (Nat.le_refl _))
          clear hb hf
          generalize vs 4 = ur at er3 ⊢
          subst er3
          go_wp2_with fail
          go_ret
          exact ⟨rfl, HB.out⟩
  · have HA := hid hA
    have HT := hid (szT_no (t := A.d.tot) (left := 1048576) (by omega))
    clear hA
    go_enter Try.func7, Try.ntmps7
    go_wp2_with fail
    refine (szArray_any A _ _ (((HA.out.reads.old (below_alloc _ _)).old (below_alloc _ _)).old (below_alloc _ _)) HA.out.ns HA.out.n0 HA.out.n1 HA.out.n2 (by omega) (by omega)).mono ?_
    rintro e w1 ⟨rfl, B1⟩
    rw [HT.out]
    go_wp2_with fail
    go_ret
    exact ⟨rfl, below_step (below_alloc3 _ _ _ _) B1 (Nat.le_refl _)⟩

set_option maxRecDepth 100000 in
theorem lifted (os : Os) (started : os.Started) (H : Type) (enc : TypeId × Value → H) :
    ReturnsInHanded {} Try.checked os 7 .any (Rows.fnExactRowDecayedSpec.pre6 enc Try.prog Try.f7 Rows.fnExactRowDecayedRow.domain false) (Rows.fnExactRowDecayedSpec.post enc Try.prog Try.f7 false true false false) := by
  refine returnsInHanded_of_change (C := Try.checked) own started (by kernel_rfl) Try.func7
    (ChangeSpec.witness6 (enc := enc) (C := Try.checked) false ⟨#[], #[.agg #[.int .i64 0, .int .i64 0, .int .i64 0, .int .i64 0], .agg #[.int .i64 0, .int .i64 0], .agg #[.slice none 0 0, .slice none 0 0, .slice none 0 0], .int .i64 0, .int .i64 0], []⟩ 8 (by kernel_rfl) (by kernel_rfl) (by kernel_rfl) (by kernel_rfl)) ?_
  intro W base args ds gs before hval0 hW hcnd _
  have hval : ∀ (j : Nat) t v, Try.f7.params[j]? = some t → args[j]? = some v → Value.okWide Try.prog W .any base t v := hval0
  have hW' := hW
  obtain ⟨p, q, hA0, hV, rfl, hfz, hnd⟩ := hW
  have hA : DataW.TrodAll enc Try.prog W 0 (fun _ => true) true Try.f7.params.toList args.toList ds p := hA0
  rw [Try.params7] at hA hval
  obtain ⟨v0, vs0, d0, ds0, p0, q0, hargs, rfl, rfl, h0, r0⟩ := trodAll_cons hA
  obtain ⟨v1, vs1, d1, ds1, p1, q1, rfl, rfl, rfl, h1, r1⟩ := trodAll_cons r0
  obtain ⟨v2, vs2, d2, ds2, p2, q2, rfl, rfl, rfl, h2, r2⟩ := trodAll_cons r1
  obtain ⟨v3, vs3, d3, ds3, p3, q3, rfl, rfl, rfl, h3, r3⟩ := trodAll_cons r2
  obtain ⟨v4, vs4, d4, ds4, p4, q4, rfl, rfl, rfl, h4, r4⟩ := trodAll_cons r3
  obtain ⟨rfl, rfl, rfl⟩ := trodAll_nil r4
  obtain rfl : args = #[v0, v1, v2, v3, v4] := by cases args; simp_all
  obtain ⟨rfl, rfl⟩ := trodVars_none hV
  obtain ⟨a3, rfl, rfl, rfl, w3⟩ := open_int Try.underlying3 (hval 3 3 v3 rfl rfl) h3
  obtain ⟨a4, rfl, rfl, rfl, w4⟩ := open_int Try.underlying3 (hval 4 3 v4 rfl rfl) h4
  have k0 := h0
  have lt0 : ∀ x ∈ p0, x.block < W.heap.size := by obtain ⟨m, hm⟩ := k0; exact DataW.trod_lt m _ _ _ hm
  obtain ⟨G, rfl⟩ := open_geo (hval 0 31 v0 rfl rfl) h0
  have k1 := h1
  have lt1 : ∀ x ∈ p1, x.block < W.heap.size := by obtain ⟨m, hm⟩ := k1; exact DataW.trod_lt m _ _ _ hm
  obtain ⟨la, lh, rfl⟩ := open_lim (hval 1 50 v1 rfl rfl) h1
  have k2 := h2
  have lt2 : ∀ x ∈ p2, x.block < W.heap.size := by obtain ⟨m, hm⟩ := k2; exact DataW.trod_lt m _ _ _ hm
  obtain ⟨A, rfl, hArr⟩ := open_array (hval 2 34 v2 rfl rfl) h2
  clear hA0 hval0
  refine (walk W G la lh A hArr a3 w3 a4 w4).mono fun e W' ⟨he, bel⟩ => ?_
  subst he
  exact ⟨_, rfl, _, _, _, [], _, [], hW', trodAll_mk1 (shut_bool Try.underlying4 _), (trodAll_cons_mk (Below.trod laidOut (by kernel_rfl) (of_decide_eq_true (by kernel_rfl)) k0 bel lt0) (trodAll_cons_mk (Below.trod laidOut (by kernel_rfl) (of_decide_eq_true (by kernel_rfl)) k1 bel lt1) (trodAll_cons_mk (Below.trod laidOut (by kernel_rfl) (of_decide_eq_true (by kernel_rfl)) k2 bel lt2) (trodAll_cons_mk (shut_int Try.underlying3 w3) (trodAll_cons_mk (shut_int Try.underlying3 w4) trodAll_mk0))))), rfl, bel.frame _, fun h => by cases h⟩

theorem own_facts : joinedFacts Try.prog 7 Try.f7 Rows.fnExactRowDecayedSpec Rows.fnExactRowDecayedRow = true :=
  facts_of 7 Try.f7 Rows.fnExactRowDecayedSpec Rows.fnExactRowDecayedRow (by as_aux_lemma => kernel_rfl) (by as_aux_lemma => kernel_rfl) (by as_aux_lemma => kernel_rfl) rfl rfl
    (by as_aux_lemma => kernel_rfl) (by as_aux_lemma => kernel_rfl) (by as_aux_lemma => kernel_rfl) (by as_aux_lemma => kernel_rfl)
    (by as_aux_lemma => kernel_rfl) (by as_aux_lemma => kernel_rfl) (by as_aux_lemma => kernel_rfl) (by as_aux_lemma => kernel_rfl) (by as_aux_lemma => kernel_rfl)
    (by as_aux_lemma => kernel_rfl) (by as_aux_lemma => kernel_rfl) (by as_aux_lemma => kernel_rfl) (by as_aux_lemma => kernel_rfl)
    rfl rfl rfl rfl (by as_aux_lemma => kernel_rfl) (by as_aux_lemma => kernel_rfl) (by as_aux_lemma => kernel_rfl) (by as_aux_lemma => kernel_rfl)
theorem over : Rows.fnExactRowDecayedRow.holds Try.pinned (OpenSpec.ofChange Rows.fnExactRowDecayedSpec) :=
  OpenClaim.holds_of_wide 7 Try.f7 rfl rfl rfl rfl rfl rfl rfl ⟨rfl, rfl, rfl, rfl, rfl⟩ rfl rfl rfl rfl rfl (by as_aux_lemma => kernel_rfl) Try.func7 own_facts
    (of_decide_eq_true (by as_aux_lemma => kernel_rfl)) (by unfold Func.isWrapper; first | (rw [if_pos (by decide +kernel)]; kernel_rfl) | (rw [if_neg (by decide +kernel)]; exact ⟨rfl, rfl⟩))
    (fun os started H enc _ => lifted os started H enc)

theorem proved : Rows.FnExactRowDecayedSaid := over
#print axioms proved
end Go.Proofs.Ytnfkkkjookfdiaa.fnExactRowDecayed
