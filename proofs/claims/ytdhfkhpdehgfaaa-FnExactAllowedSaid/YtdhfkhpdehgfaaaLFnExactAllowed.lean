/- The law 'FnExactAllowed': for every input the program's function and the reference's agree, so the call returns true and leaves its arguments as they were; no condition. -/
import Derived.Test.YtdhfkhpdehgfaaaRows
import Derived.Test.YtdhfkhpdehgfaaaHead
import Derived.Test.YtdhfkhpdehgfaaaAlwW
import Derived.Test.YtdhfkhpdehgfaaaAdrW
import Derived.Test.YtdhfkhpdehgfaaaEvtW
import Derived.Test.YtdhfkhpdehgfaaaOpenR
import Derived.Test.YtdhfkhpdehgfaaaOpenT
import Derived.WalkKit
import Derived.ProofKit
import Derived.OpenShut
import Derived.ShutString
import Derived.ChangeOld
import Derived.Below
namespace Go.Proofs.Ytdhfkhpdehgfaaa.fnExactAllowed
open Go.ChangeShapes Go.WideShapes Go.ChangeAt Go.RowKit
set_option linter.unusedVariables false

theorem own : ownKnob Try.prog.godebug = none := by kernel_rfl
theorem laidOut : laidOutB Try.prog = true := by kernel_rfl


set_option maxRecDepth 100000 in
theorem walk (w : World) (G : Geo) (R : RankE) (hR : ArgRank w R) (C : Cmd) :
    Calls Try.prog 12 #[.agg #[.int .i64 G.a, .int .i64 G.b, .int .i64 G.r, .int .i64 G.c], .agg #[.slice R.a R.n R.c, .int .i64 R.p], .agg #[.int .i64 C.k, .int .i64 C.b, .int .i64 C.r, .int .i64 C.c]] w fun e w' => e = .returned (.bool true) ∧ Below w.heap.size w w' := by
  by_cases hsz : (R.n : Int) ≤ 1048576
  · have HA := hid hR
    have hn : R.n ≤ 1048576 := by omega
    have HNM := hid hn
    have HSM := hid (show R.es.length ≤ 1048576 by rw [← HA.out.reads.len]; exact hn)
    have HT := hid (szT_yes hsz)
    have h0 : (0 : Int) ≤ 1048576 - R.n := by omega
    generalize hleft : (1048576 : Int) - R.n = left at h0 HT
    have hdl : decide (left < 0) = false := by simp; omega
    clear hR hleft hn
    go_enter Try.func12, Try.ntmps12
    go_wp2_with fail
    refine (szRank_any R _ _ HA.out.max (by omega) (by omega)).mono ?_
    rintro e w1 ⟨rfl, B1⟩
    rw [HT.out]
    have HB := hid (below_step (below_alloc3 _ _ _ _) B1 (Nat.le_refl _))
    have HXGw := hid ((((BoxG.new_ w 34 G (show _ = w.heap.size by simp)).old (below_alloc _ _)).old (below_alloc _ _)).old B1)
    have HXRw := hid (((BoxK2.new_ (w.alloc _) 24 R (show _ = w.heap.size + 1 by simp)).old (below_alloc _ _)).old B1)
    have HXCw := hid ((BoxC.new_ ((w.alloc _).alloc _) 77 C (show _ = w.heap.size + 1 + 1 by simp)).old B1)
    have HRw := hid (HA.out.reads.old HB.out)
    have hB1 := hid (Below.refl w1.heap.size w1)
    have HB1 := hB1
    clear hB1 B1
    go_upto_region 5 with (fail)
    have HXG := hid (HXGw.out.old HB1.out)
    have HXR := hid (HXRw.out.old HB1.out)
    have HXC := hid (HXCw.out.old HB1.out)
    have HR := hid (HRw.out.old HB1.out)
    refine grows_of (fr := ?fr1)
      (fun i v w' => match i with
          | 0 => v = .agg #[.int .i64 G.a, .int .i64 G.b, .int .i64 G.r, .int .i64 G.c]
          | 1 => v = .agg #[.int .i64 G.a, .int .i64 G.b, .int .i64 G.r, .int .i64 G.c]
          | 2 => v = .agg #[.slice R.a R.n R.c, .int .i64 R.p]
          | 3 => ∃ (A' : RankE) (U : Nat), v = .agg #[.slice A'.a A'.n A'.c, .int .i64 A'.p] ∧ OwnR w' w1.heap.size U A' ∧ A'.d = R.d ∧ A'.n = R.n
          | 4 => v = .agg #[.int .i64 C.k, .int .i64 C.b, .int .i64 C.r, .int .i64 C.c]
          | 5 => v = .agg #[.int .i64 C.k, .int .i64 C.b, .int .i64 C.r, .int .i64 C.c]
          | 6 => v = .bool (allowed G R.d C)
          | _ => v = .bool (allowed G R.d C)) (by kernel_rfl) (by kernel_rfl) ?hfr1 ⟨fun _ => undef, ?h01⟩ ?hF1 ?hstep1 ?hend1
    case hfr1 => intro vs; simp only [frOf]; go_simp; exact rfl
    case h01 => rfl
    case hF1 =>
      intro i v w' w'' h hb
      match i, h with
      | 0, h => exact h
      | 1, h => exact h
      | 2, h => exact h
      | 3, h => obtain ⟨A', U, e, o, d, m⟩ := h; exact ⟨A', U, e, o.old hb, d, m⟩
      | 4, h => exact h
      | 5, h => exact h
      | 6, h => exact h
      | n + 7, h => exact h
    case hstep1 =>
      intro vs w' i o ho hb hd
      match i, ho with
      | 0, ho =>
        simp only [List.getElem?_cons_zero, Option.some.injEq] at ho
        subst ho
        refine ⟨wanted_none rfl, ?_⟩
        have c0 := (HXG.out.old hb).c0
        have c1 := (HXG.out.old hb).c1
        have c2 := (HXG.out.old hb).c2
        have c3 := (HXG.out.old hb).c3
        generalize hK : (fun (a' : Act) (w'' : World) => ∃ v : Value, _ ∧ _ ∧ _) = K
        go_simp
        rw [← hK]
        exact ⟨_, rfl, rfl, Below.refl _ _⟩
      | 1, ho =>
        simp only [List.getElem?_cons_succ, List.getElem?_cons_zero, Option.some.injEq] at ho
        subst ho
        refine ⟨wanted_none rfl, ?_⟩
        have e0 : Hid (vs 0 = .agg #[.int .i64 G.a, .int .i64 G.b, .int .i64 G.r, .int .i64 G.c]) := hd 0 (by kernel_rfl)
        generalize hK : (fun (a' : Act) (w'' : World) => ∃ v : Value, _ ∧ _ ∧ _) = K
        go_simp
        refine (calls_args (by rw [e0.out]) (toGeometry_any G _)).mono ?_
        rintro e w2 ⟨rfl, B⟩
        rw [← hK]
        exact ⟨_, rfl, rfl, B⟩
      | 2, ho =>
        simp only [List.getElem?_cons_succ, List.getElem?_cons_zero, Option.some.injEq] at ho
        subst ho
        refine ⟨wanted_none rfl, ?_⟩
        have c0 := (HXR.out.old hb).c0
        have c1 := (HXR.out.old hb).c1
        generalize hK : (fun (a' : Act) (w'' : World) => ∃ v : Value, _ ∧ _ ∧ _) = K
        go_simp
        rw [← hK]
        exact ⟨_, rfl, rfl, Below.refl _ _⟩
      | 3, ho =>
        simp only [List.getElem?_cons_succ, List.getElem?_cons_zero, Option.some.injEq] at ho
        subst ho
        refine ⟨wanted_none rfl, ?_⟩
        have e0 : Hid (vs 2 = .agg #[.slice R.a R.n R.c, .int .i64 R.p]) := hd 2 (by kernel_rfl)
        generalize hK : (fun (a' : Act) (w'' : World) => ∃ v : Value, _ ∧ _ ∧ _) = K
        go_simp
        refine (calls_args (by rw [e0.out]) (toRank_any R _ (HR.out.old hb) HSM.out)).mono ?_
        rintro e w2 ⟨A', rfl, O, D0, N0, B⟩
        rw [← hK]
        exact ⟨_, rfl, ⟨A', _, rfl, OwnR.mono O hb.size, D0, N0⟩, B⟩
      | 4, ho =>
        simp only [List.getElem?_cons_succ, List.getElem?_cons_zero, Option.some.injEq] at ho
        subst ho
        refine ⟨wanted_none rfl, ?_⟩
        have c0 := (HXC.out.old hb).c0
        have c1 := (HXC.out.old hb).c1
        have c2 := (HXC.out.old hb).c2
        have c3 := (HXC.out.old hb).c3
        generalize hK : (fun (a' : Act) (w'' : World) => ∃ v : Value, _ ∧ _ ∧ _) = K
        go_simp
        rw [← hK]
        exact ⟨_, rfl, rfl, Below.refl _ _⟩
      | 5, ho =>
        simp only [List.getElem?_cons_succ, List.getElem?_cons_zero, Option.some.injEq] at ho
        subst ho
        refine ⟨wanted_none rfl, ?_⟩
        have e0 : Hid (vs 4 = .agg #[.int .i64 C.k, .int .i64 C.b, .int .i64 C.r, .int .i64 C.c]) := hd 4 (by kernel_rfl)
        generalize hK : (fun (a' : Act) (w'' : World) => ∃ v : Value, _ ∧ _ ∧ _) = K
        go_simp
        refine (calls_args (by rw [e0.out]) (toCommand_any C _)).mono ?_
        rintro e w2 ⟨rfl, B⟩
        rw [← hK]
        exact ⟨_, rfl, rfl, B⟩
      | 6, ho =>
        simp only [List.getElem?_cons_succ, List.getElem?_cons_zero, Option.some.injEq] at ho
        subst ho
        refine ⟨wanted_none rfl, ?_⟩
        have e1 : Hid (vs 1 = .agg #[.int .i64 G.a, .int .i64 G.b, .int .i64 G.r, .int .i64 G.c]) := hd 1 (by kernel_rfl)
        obtain ⟨A', U, ea', O, D0, N0⟩ := hd 3 (by kernel_rfl)
        have ea := hid ea'
        clear ea'
        have e5 : Hid (vs 5 = .agg #[.int .i64 C.k, .int .i64 C.b, .int .i64 C.r, .int .i64 C.c]) := hd 5 (by kernel_rfl)
        generalize hK : (fun (a' : Act) (w'' : World) => ∃ v : Value, _ ∧ _ ∧ _) = K
        go_simp
        refine (calls_args (by rw [e1.out, ea.out, e5.out]) (specAllowed_any G A' C _ (O.reads) (by rw [N0]; exact HNM.out))).mono ?_
        rintro e w2 ⟨rfl, B⟩
        rw [← hK]
        exact ⟨_, rfl, congrArg (fun d => Value.bool (allowed G d C)) D0, B⟩
      | 7, ho =>
        simp only [List.getElem?_cons_succ, List.getElem?_cons_zero, Option.some.injEq] at ho
        subst ho
        refine ⟨wanted_none rfl, ?_⟩
        have e0 : Hid (vs 6 = .bool (allowed G R.d C)) := hd 6 (by kernel_rfl)
        generalize hK : (fun (a' : Act) (w'' : World) => ∃ v : Value, _ ∧ _ ∧ _) = K
        go_simp
        rw [← hK]
        exact ⟨_, rfl, e0.out, Below.refl _ _⟩
      | n + 8, ho => simp at ho
    case hend1 =>
      intro vs w2 hb hf
      have er : vs 7 = .bool (allowed G R.d C) := hf 7 (by decide)
      have HB1 := hid (below_step HB1.out hb (Nat.le_refl _))
      have Sw2 : Hid (w1.heap.size ≤ w2.heap.size) := hid hb.size
      clear hb hf
      generalize vs 7 = ur at er ⊢
      subst er
      generalize hr : allowed G R.d C = r
      have HRr := hid hr
      clear hr
      have hrr : (r != r) = false := by simp
      go_upto_region 6 with (fail)
      have HXG := hid (HXGw.out.old HB1.out)
      have HXR := hid (HXRw.out.old HB1.out)
      have HXC := hid (HXCw.out.old HB1.out)
      have HR := hid (HRw.out.old HB1.out)
      have cR0 := HXR.out.c0
      have cR1 := HXR.out.c1
      go_wp2_with fail
      clear cR0 cR1
      refine (toRank_any R _ (HR.out) HSM.out).mono ?_
      rintro e w3 ⟨X, rfl, O, D0, N0, B⟩
      have HB1 := hid (below_step HB1.out B (Nat.le_refl _))
      have Sw3 : Hid (w2.heap.size ≤ w3.heap.size) := hid B.size
      clear B
      have HOX := hid O
      have HDX := hid D0
      have HNX := hid N0
      clear O D0 N0
      have HSMX := hid (show X.es.length ≤ 1048576 by rw [← HOX.out.reads.len, HNX.out]; exact HNM.out)
      go_upto_region 7 with (fail)
      refine wp_world (fun w4 hw => ?_)
      have HXX : Hid (BoxK2 w4 w3.heap.size X) := by rw [hw.out]; exact hid (BoxK2.new_ _ _ _ rfl)
      have B : Below w3.heap.size w3 w4 := by rw [hw.out]; exact below_alloc _ _
      have HOX := hid (HOX.out.old B)
      have HB1 := hid (below_step HB1.out B (Nat.le_refl _))
      have Sw4 : Hid (w3.heap.size ≤ w4.heap.size) := hid B.size
      clear B hw
      go_upto_region 7 with (fail)
      have HXG := hid (HXGw.out.old HB1.out)
      have HXR := hid (HXRw.out.old HB1.out)
      have HXC := hid (HXCw.out.old HB1.out)
      have HR := hid (HRw.out.old HB1.out)
      refine grows_of (fr := ?fr2)
        (fun i v w' => match i with
            | 0 => v = .agg #[.int .i64 G.a, .int .i64 G.b, .int .i64 G.r, .int .i64 G.c]
            | 1 => v = .agg #[.int .i64 G.a, .int .i64 G.b, .int .i64 G.r, .int .i64 G.c]
            | 2 => v = .agg #[.slice X.a X.n X.c, .int .i64 X.p]
            | 3 => v = .agg #[.int .i64 C.k, .int .i64 C.b, .int .i64 C.r, .int .i64 C.c]
            | 4 => v = .agg #[.int .i64 C.k, .int .i64 C.b, .int .i64 C.r, .int .i64 C.c]
            | 5 => v = .bool (allowed G R.d C)
            | _ => v = .bool (allowed G R.d C)) (by kernel_rfl) (by kernel_rfl) ?hfr2 ⟨fun _ => undef, ?h02⟩ ?hF2 ?hstep2 ?hend2
      case hfr2 => intro vs; simp only [frOf]; go_simp; exact rfl
      case h02 => rfl
      case hF2 =>
        intro i v w' w'' h hb
        match i, h with
        | 0, h => exact h
        | 1, h => exact h
        | 2, h => exact h
        | 3, h => exact h
        | 4, h => exact h
        | 5, h => exact h
        | n + 6, h => exact h
      case hstep2 =>
        intro vs w' i o ho hb hd
        match i, ho with
        | 0, ho =>
          simp only [List.getElem?_cons_zero, Option.some.injEq] at ho
          subst ho
          refine ⟨wanted_none rfl, ?_⟩
          have c0 := (HXG.out.old hb).c0
          have c1 := (HXG.out.old hb).c1
          have c2 := (HXG.out.old hb).c2
          have c3 := (HXG.out.old hb).c3
          generalize hK : (fun (a' : Act) (w'' : World) => ∃ v : Value, _ ∧ _ ∧ _) = K
          go_simp
          rw [← hK]
          exact ⟨_, rfl, rfl, Below.refl _ _⟩
        | 1, ho =>
          simp only [List.getElem?_cons_succ, List.getElem?_cons_zero, Option.some.injEq] at ho
          subst ho
          refine ⟨wanted_none rfl, ?_⟩
          have e0 : Hid (vs 0 = .agg #[.int .i64 G.a, .int .i64 G.b, .int .i64 G.r, .int .i64 G.c]) := hd 0 (by kernel_rfl)
          generalize hK : (fun (a' : Act) (w'' : World) => ∃ v : Value, _ ∧ _ ∧ _) = K
          go_simp
          refine (calls_args (by rw [e0.out]) (toGeometry_any G _)).mono ?_
          rintro e w2 ⟨rfl, B⟩
          rw [← hK]
          exact ⟨_, rfl, rfl, B⟩
        | 2, ho =>
          simp only [List.getElem?_cons_succ, List.getElem?_cons_zero, Option.some.injEq] at ho
          subst ho
          refine ⟨wanted_none rfl, ?_⟩
          have c0 := (HXX.out.old hb).c0
          have c1 := (HXX.out.old hb).c1
          generalize hK : (fun (a' : Act) (w'' : World) => ∃ v : Value, _ ∧ _ ∧ _) = K
          go_simp
          rw [← hK]
          exact ⟨_, rfl, rfl, Below.refl _ _⟩
        | 3, ho =>
          simp only [List.getElem?_cons_succ, List.getElem?_cons_zero, Option.some.injEq] at ho
          subst ho
          refine ⟨wanted_none rfl, ?_⟩
          have c0 := (HXC.out.old hb).c0
          have c1 := (HXC.out.old hb).c1
          have c2 := (HXC.out.old hb).c2
          have c3 := (HXC.out.old hb).c3
          generalize hK : (fun (a' : Act) (w'' : World) => ∃ v : Value, _ ∧ _ ∧ _) = K
          go_simp
          rw [← hK]
          exact ⟨_, rfl, rfl, Below.refl _ _⟩
        | 4, ho =>
          simp only [List.getElem?_cons_succ, List.getElem?_cons_zero, Option.some.injEq] at ho
          subst ho
          refine ⟨wanted_none rfl, ?_⟩
          have e0 : Hid (vs 3 = .agg #[.int .i64 C.k, .int .i64 C.b, .int .i64 C.r, .int .i64 C.c]) := hd 3 (by kernel_rfl)
          generalize hK : (fun (a' : Act) (w'' : World) => ∃ v : Value, _ ∧ _ ∧ _) = K
          go_simp
          refine (calls_args (by rw [e0.out]) (toCommand_any C _)).mono ?_
          rintro e w2 ⟨rfl, B⟩
          rw [← hK]
          exact ⟨_, rfl, rfl, B⟩
        | 5, ho =>
          simp only [List.getElem?_cons_succ, List.getElem?_cons_zero, Option.some.injEq] at ho
          subst ho
          refine ⟨wanted_none rfl, ?_⟩
          have e1 : Hid (vs 1 = .agg #[.int .i64 G.a, .int .i64 G.b, .int .i64 G.r, .int .i64 G.c]) := hd 1 (by kernel_rfl)
          have ea : Hid (vs 2 = .agg #[.slice X.a X.n X.c, .int .i64 X.p]) := hd 2 (by kernel_rfl)
          have e4 : Hid (vs 4 = .agg #[.int .i64 C.k, .int .i64 C.b, .int .i64 C.r, .int .i64 C.c]) := hd 4 (by kernel_rfl)
          generalize hK : (fun (a' : Act) (w'' : World) => ∃ v : Value, _ ∧ _ ∧ _) = K
          go_simp
          refine (calls_args (by rw [e1.out, ea.out, e4.out]) (implAllowed_any G X C _ (HOX.out.reads.old hb) (by rw [HNX.out]; exact HNM.out))).mono ?_
          rintro e w2 ⟨rfl, B⟩
          rw [← hK]
          exact ⟨_, rfl, congrArg (fun d => Value.bool (allowed G d C)) HDX.out, B⟩
        | 6, ho =>
          simp only [List.getElem?_cons_succ, List.getElem?_cons_zero, Option.some.injEq] at ho
          subst ho
          refine ⟨wanted_none rfl, ?_⟩
          have e0 : Hid (vs 5 = .bool (allowed G R.d C)) := hd 5 (by kernel_rfl)
          generalize hK : (fun (a' : Act) (w'' : World) => ∃ v : Value, _ ∧ _ ∧ _) = K
          go_simp
          rw [← hK]
          exact ⟨_, rfl, e0.out, Below.refl _ _⟩
        | n + 7, ho => simp at ho
      case hend2 =>
        intro vs w5 hb hf
        have er : vs 6 = .bool (allowed G R.d C) := hf 6 (by decide)
        have HOX := hid (HOX.out.old hb)
        have HXX := hid (HXX.out.old hb)
        have HB1 := hid (below_step HB1.out hb (Nat.le_refl _))
        have Sw5 : Hid (w4.heap.size ≤ w5.heap.size) := hid hb.size
        clear hb hf
        generalize vs 6 = ur at er ⊢
        subst er
        rw [HRr.out]
        go_upto_region 10 with (fail)
        have HXG := hid (HXGw.out.old HB1.out)
        have HXR := hid (HXRw.out.old HB1.out)
        have HXC := hid (HXCw.out.old HB1.out)
        have HR := hid (HRw.out.old HB1.out)
        refine grows_of (fr := ?fr3)
          (fun i v w' => match i with
              | 0 => v = .agg #[.slice X.a X.n X.c, .int .i64 X.p]
              | 1 => v = .agg #[.slice R.a R.n R.c, .int .i64 R.p]
              | 2 => ∃ (A' : RankE) (U : Nat), v = .agg #[.slice A'.a A'.n A'.c, .int .i64 A'.p] ∧ OwnR w' w5.heap.size U A' ∧ A'.d = R.d ∧ A'.n = R.n
              | 3 => v = .bool true
              | _ => v = .bool false) (by kernel_rfl) (by kernel_rfl) ?hfr3 ⟨fun _ => undef, ?h03⟩ ?hF3 ?hstep3 ?hend3
        case hfr3 => intro vs; simp only [frOf]; go_simp; exact rfl
        case h03 => rfl
        case hF3 =>
          intro i v w' w'' h hb
          match i, h with
          | 0, h => exact h
          | 1, h => exact h
          | 2, h => obtain ⟨A', U, e, o, d, m⟩ := h; exact ⟨A', U, e, o.old hb, d, m⟩
          | 3, h => exact h
          | n + 4, h => exact h
        case hstep3 =>
          intro vs w' i o ho hb hd
          match i, ho with
          | 0, ho =>
            simp only [List.getElem?_cons_zero, Option.some.injEq] at ho
            subst ho
            refine ⟨wanted_none rfl, ?_⟩
            have c0 := (HXX.out.old hb).c0
            have c1 := (HXX.out.old hb).c1
            generalize hK : (fun (a' : Act) (w'' : World) => ∃ v : Value, _ ∧ _ ∧ _) = K
            go_simp
            rw [← hK]
            exact ⟨_, rfl, rfl, Below.refl _ _⟩
          | 1, ho =>
            simp only [List.getElem?_cons_succ, List.getElem?_cons_zero, Option.some.injEq] at ho
            subst ho
            refine ⟨wanted_none rfl, ?_⟩
            have c0 := (HXR.out.old hb).c0
            have c1 := (HXR.out.old hb).c1
            generalize hK : (fun (a' : Act) (w'' : World) => ∃ v : Value, _ ∧ _ ∧ _) = K
            go_simp
            rw [← hK]
            exact ⟨_, rfl, rfl, Below.refl _ _⟩
          | 2, ho =>
            simp only [List.getElem?_cons_succ, List.getElem?_cons_zero, Option.some.injEq] at ho
            subst ho
            refine ⟨wanted_none rfl, ?_⟩
            have e0 : Hid (vs 1 = .agg #[.slice R.a R.n R.c, .int .i64 R.p]) := hd 1 (by kernel_rfl)
            generalize hK : (fun (a' : Act) (w'' : World) => ∃ v : Value, _ ∧ _ ∧ _) = K
            go_simp
            refine (calls_args (by rw [e0.out]) (toRank_any R _ (HR.out.old hb) HSM.out)).mono ?_
            rintro e w2 ⟨A', rfl, O, D0, N0, B⟩
            rw [← hK]
            exact ⟨_, rfl, ⟨A', _, rfl, OwnR.mono O hb.size, D0, N0⟩, B⟩
          | 3, ho =>
            simp only [List.getElem?_cons_succ, List.getElem?_cons_zero, Option.some.injEq] at ho
            subst ho
            refine ⟨wanted_none rfl, ?_⟩
            have e0 : Hid (vs 0 = .agg #[.slice X.a X.n X.c, .int .i64 X.p]) := hd 0 (by kernel_rfl)
            obtain ⟨A', U, ea', O, D0, N0⟩ := hd 2 (by kernel_rfl)
            have ea := hid ea'
            clear ea'
            generalize hK : (fun (a' : Act) (w'' : World) => ∃ v : Value, _ ∧ _ ∧ _) = K
            go_simp
            refine (calls_args (by rw [e0.out, ea.out]) (eqRank_same X A' _ (HOX.out.reads.old hb) O.reads (by rw [HDX.out, D0]) HSMX.out)).mono ?_
            rintro e w2 ⟨rfl, B⟩
            rw [← hK]
            exact ⟨_, rfl, rfl, B⟩
          | 4, ho =>
            simp only [List.getElem?_cons_succ, List.getElem?_cons_zero, Option.some.injEq] at ho
            subst ho
            refine ⟨wanted_none rfl, ?_⟩
            have e3 : vs 3 = .bool true := hd 3 (by kernel_rfl)
            generalize hK : (fun (a' : Act) (w'' : World) => ∃ v : Value, _ ∧ _ ∧ _) = K
            go_simp
            rw [← hK]
            exact ⟨_, by simp [upd, e3], rfl, Below.refl _ _⟩
          | n + 5, ho => simp at ho
        case hend3 =>
          intro vs w6 hb hf
          have er : vs 4 = .bool false := hf 4 (by decide)
          have HOX := hid (HOX.out.old hb)
          have HXX := hid (HXX.out.old hb)
          have HB1 := hid (below_step HB1.out hb (Nat.le_refl _))
          have Sw6 : Hid (w5.heap.size ≤ w6.heap.size) := hid hb.size
          clear hb hf
          generalize vs 4 = ur at er ⊢
          subst er
          go_wp2_with fail
          go_ret
          exact ⟨rfl, below_step HB.out HB1.out (Nat.le_refl _)⟩
  · have HA := hid hR
    have HT := hid (szT_no (t := R.n) (left := 1048576) (by omega))
    clear hR
    go_enter Try.func12, Try.ntmps12
    go_wp2_with fail
    refine (szRank_any R _ _ HA.out.max (by omega) (by omega)).mono ?_
    rintro e w1 ⟨rfl, B1⟩
    rw [HT.out]
    go_wp2_with fail
    go_ret
    exact ⟨rfl, below_step (below_alloc3 _ _ _ _) B1 (Nat.le_refl _)⟩

set_option maxRecDepth 100000 in
theorem lifted (os : Os) (started : os.Started) (H : Type) (enc : TypeId × Value → H) :
    ReturnsInHanded {} Try.checked os 12 .any (Rows.fnExactAllowedSpec.pre6 enc Try.prog Try.f12 Rows.fnExactAllowedRow.domain false) (Rows.fnExactAllowedSpec.post enc Try.prog Try.f12 false true false false) := by
  refine returnsInHanded_of_change (C := Try.checked) own started (by kernel_rfl) Try.func12
    (ChangeSpec.witness6 (enc := enc) (C := Try.checked) false ⟨#[], #[.agg #[.int .i64 0, .int .i64 0, .int .i64 0, .int .i64 0], .agg #[.slice none 0 0, .int .i64 0], .agg #[.int .i64 0, .int .i64 0, .int .i64 0, .int .i64 0]], []⟩ 8 (by kernel_rfl) (by kernel_rfl) (by kernel_rfl) (by kernel_rfl)) ?_
  intro W base args ds gs before hval0 hW hcnd _
  have hval : ∀ (j : Nat) t v, Try.f12.params[j]? = some t → args[j]? = some v → Value.okWide Try.prog W .any base t v := hval0
  have hW' := hW
  obtain ⟨p, q, hA0, hV, rfl, hfz, hnd⟩ := hW
  have hA : DataW.TrodAll enc Try.prog W 0 (fun _ => true) true Try.f12.params.toList args.toList ds p := hA0
  rw [Try.params12] at hA hval
  obtain ⟨v0, vs0, d0, ds0, p0, q0, hargs, rfl, rfl, h0, r0⟩ := trodAll_cons hA
  obtain ⟨v1, vs1, d1, ds1, p1, q1, rfl, rfl, rfl, h1, r1⟩ := trodAll_cons r0
  obtain ⟨v2, vs2, d2, ds2, p2, q2, rfl, rfl, rfl, h2, r2⟩ := trodAll_cons r1
  obtain ⟨rfl, rfl, rfl⟩ := trodAll_nil r2
  obtain rfl : args = #[v0, v1, v2] := by cases args; simp_all
  obtain ⟨rfl, rfl⟩ := trodVars_none hV
  have k0 := h0
  have lt0 : ∀ x ∈ p0, x.block < W.heap.size := by obtain ⟨m, hm⟩ := k0; exact DataW.trod_lt m _ _ _ hm
  obtain ⟨G, rfl⟩ := open_geo (hval 0 34 v0 rfl rfl) h0
  have k1 := h1
  have lt1 : ∀ x ∈ p1, x.block < W.heap.size := by obtain ⟨m, hm⟩ := k1; exact DataW.trod_lt m _ _ _ hm
  obtain ⟨R, rfl, hArgR⟩ := open_rank (hval 1 24 v1 rfl rfl) h1
  have k2 := h2
  have lt2 : ∀ x ∈ p2, x.block < W.heap.size := by obtain ⟨m, hm⟩ := k2; exact DataW.trod_lt m _ _ _ hm
  obtain ⟨C, rfl⟩ := open_cmd (hval 2 77 v2 rfl rfl) h2
  clear hA0 hval0
  refine (walk W G R hArgR C).mono fun e W' ⟨he, bel⟩ => ?_
  subst he
  exact ⟨_, rfl, _, _, _, [], _, [], hW', trodAll_mk1 (shut_bool Try.underlying4 _), (trodAll_cons_mk (Below.trod laidOut (by kernel_rfl) (of_decide_eq_true (by kernel_rfl)) k0 bel lt0) (trodAll_cons_mk (Below.trod laidOut (by kernel_rfl) (of_decide_eq_true (by kernel_rfl)) k1 bel lt1) (trodAll_cons_mk (Below.trod laidOut (by kernel_rfl) (of_decide_eq_true (by kernel_rfl)) k2 bel lt2) trodAll_mk0))), rfl, bel.frame _, fun h => by cases h⟩

theorem own_facts : joinedFacts Try.prog 12 Try.f12 Rows.fnExactAllowedSpec Rows.fnExactAllowedRow = true :=
  facts_of 12 Try.f12 Rows.fnExactAllowedSpec Rows.fnExactAllowedRow (by as_aux_lemma => kernel_rfl) (by as_aux_lemma => kernel_rfl) (by as_aux_lemma => kernel_rfl) rfl rfl
    (by as_aux_lemma => kernel_rfl) (by as_aux_lemma => kernel_rfl) (by as_aux_lemma => kernel_rfl) (by as_aux_lemma => kernel_rfl)
    (by as_aux_lemma => kernel_rfl) (by as_aux_lemma => kernel_rfl) (by as_aux_lemma => kernel_rfl) (by as_aux_lemma => kernel_rfl) (by as_aux_lemma => kernel_rfl)
    (by as_aux_lemma => kernel_rfl) (by as_aux_lemma => kernel_rfl) (by as_aux_lemma => kernel_rfl) (by as_aux_lemma => kernel_rfl)
    rfl rfl rfl rfl (by as_aux_lemma => kernel_rfl) (by as_aux_lemma => kernel_rfl) (by as_aux_lemma => kernel_rfl) (by as_aux_lemma => kernel_rfl)
theorem over : Rows.fnExactAllowedRow.holds Try.pinned (OpenSpec.ofChange Rows.fnExactAllowedSpec) :=
  OpenClaim.holds_of_wide 12 Try.f12 rfl rfl rfl rfl rfl rfl rfl ⟨rfl, rfl, rfl, rfl, rfl⟩ rfl rfl rfl rfl rfl (by as_aux_lemma => kernel_rfl) Try.func12 own_facts
    (of_decide_eq_true (by as_aux_lemma => kernel_rfl)) (by unfold Func.isWrapper; first | (rw [if_pos (by decide +kernel)]; kernel_rfl) | (rw [if_neg (by decide +kernel)]; exact ⟨rfl, rfl⟩))
    (fun os started H enc _ => lifted os started H enc)

theorem proved : Rows.FnExactAllowedSaid := over
#print axioms proved
end Go.Proofs.Ytdhfkhpdehgfaaa.fnExactAllowed
