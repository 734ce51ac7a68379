/- The law 'FnExactReadyOk': for every input the program's function and the reference's agree, so the call returns true and leaves its arguments as they were; no condition. -/
import Derived.Test.YtdhfkhpdehgfaaaRows
import Derived.Test.YtdhfkhpdehgfaaaHead
import Derived.Test.YtdhfkhpdehgfaaaRdyP
import Derived.Test.YtdhfkhpdehgfaaaAdrW
import Derived.Test.YtdhfkhpdehgfaaaOpenY
import Derived.Test.YtdhfkhpdehgfaaaOpenT
import Derived.WalkKit
import Derived.ProofKit
import Derived.OpenShut
import Derived.ShutString
import Derived.ChangeOld
import Derived.Below
namespace Go.Proofs.Ytdhfkhpdehgfaaa.fnExactReadyOk
open Go.ChangeShapes Go.WideShapes Go.ChangeAt Go.RowKit
set_option linter.unusedVariables false

theorem own : ownKnob Try.prog.godebug = none := by kernel_rfl
theorem laidOut : laidOutB Try.prog = true := by kernel_rfl


set_option maxRecDepth 100000 in
theorem walk (w : World) (G : Geo) (Q : RdyE) (hQ : ArgReady w Q) :
    Calls Try.prog 10 #[.agg #[.int .i64 G.a, .int .i64 G.b, .int .i64 G.r, .int .i64 G.c], .agg #[.slice Q.s0.a Q.s0.n Q.s0.c, .slice Q.s1.a Q.s1.n Q.s1.c]] w fun e w' => e = .returned (.bool true) ∧ Below w.heap.size w w' := by
  by_cases hsz : (Q.n : Int) ≤ 1048576
  · have HA := hid hQ
    have hn : Q.n ≤ 1048576 := by omega
    have HNM := hid hn
    have HSM := hid (HA.out.small hsz)
    have HT := hid (szT_yes hsz)
    have h0 : (0 : Int) ≤ 1048576 - Q.n := by omega
    generalize hleft : (1048576 : Int) - Q.n = left at h0 HT
    have hdl : decide (left < 0) = false := by simp; omega
    clear hQ hleft hn
    go_enter Try.func10, Try.ntmps10
    go_wp2_with fail
    refine (szReady_any Q _ _ HA.out.max (by omega) (by omega)).mono ?_
    rintro e w1 ⟨rfl, B1⟩
    rw [HT.out]
    have HB := hid (below_step (below_alloc2 _ _ _) B1 (Nat.le_refl _))
    have HXGw := hid (((BoxG.new_ w 34 G (show _ = w.heap.size by simp)).old (below_alloc _ _)).old B1)
    have HXQw := hid ((BoxY.new_ (w.alloc _) 67 Q (show _ = w.heap.size + 1 by simp)).old B1)
    have HRw := hid (HA.out.reads.old HB.out)
    have hB1 := hid (Below.refl w1.heap.size w1)
    have HB1 := hB1
    clear hB1 B1
    go_upto_region 5 with (fail)
    have HXG := hid (HXGw.out.old HB1.out)
    have HXQ := hid (HXQw.out.old HB1.out)
    have HR := hid (HRw.out.old HB1.out)
    refine grows_of (fr := ?fr1)
      (fun i v w' => match i with
          | 0 => v = .agg #[.int .i64 G.a, .int .i64 G.b, .int .i64 G.r, .int .i64 G.c]
          | 1 => v = .agg #[.int .i64 G.a, .int .i64 G.b, .int .i64 G.r, .int .i64 G.c]
          | 2 => v = .agg #[.slice Q.s0.a Q.s0.n Q.s0.c, .slice Q.s1.a Q.s1.n Q.s1.c]
          | 3 => ∃ (A' : RdyE) (U : Nat), v = .agg #[.slice A'.s0.a A'.s0.n A'.s0.c, .slice A'.s1.a A'.s1.n A'.s1.c] ∧ OwnY w' w1.heap.size U A' ∧ A'.d = Q.d ∧ A'.n = Q.n
          | 4 => v = .bool (readyOk G Q.d)
          | _ => v = .bool (readyOk G Q.d)) (by kernel_rfl) (by kernel_rfl) ?hfr1 ⟨fun _ => undef, ?h01⟩ ?hF1 ?hstep1 ?hend1
    case hfr1 => intro vs; simp only [frOf]; go_simp; exact rfl
    case h01 => rfl
    case hF1 =>
      intro i v w' w'' h hb
      match i, h with
      | 0, h => exact h
      | 1, h => exact h
      | 2, h => exact h
      | 3, h => obtain ⟨A', U, e, o, d, m⟩ := h; exact ⟨A', U, e, o.old hb, d, m⟩
      | 4, h => exact h
      | n + 5, h => exact h
    case hstep1 =>
      intro vs w' i o ho hb hd
      match i, ho with
      | 0, ho =>
        simp only [List.getElem?_cons_zero, Option.some.injEq] at ho
        subst ho
        refine ⟨wanted_none rfl, ?_⟩
        have c0 := (HXG.out.old hb).c0
        have c1 := (HXG.out.old hb).c1
        have c2 := (HXG.out.old hb).c2
        have c3 := (HXG.out.old hb).c3
        generalize hK : (fun (a' : Act) (w'' : World) => ∃ v : Value, _ ∧ _ ∧ _) = K
        go_simp
        rw [← hK]
        exact ⟨_, rfl, rfl, Below.refl _ _⟩
      | 1, ho =>
        simp only [List.getElem?_cons_succ, List.getElem?_cons_zero, Option.some.injEq] at ho
        subst ho
        refine ⟨wanted_none rfl, ?_⟩
        have e0 : Hid (vs 0 = .agg #[.int .i64 G.a, .int .i64 G.b, .int .i64 G.r, .int .i64 G.c]) := hd 0 (by kernel_rfl)
        generalize hK : (fun (a' : Act) (w'' : World) => ∃ v : Value, _ ∧ _ ∧ _) = K
        go_simp
        refine (calls_args (by rw [e0.out]) (toGeometry_any G _)).mono ?_
        rintro e w2 ⟨rfl, B⟩
        rw [← hK]
        exact ⟨_, rfl, rfl, B⟩
      | 2, ho =>
        simp only [List.getElem?_cons_succ, List.getElem?_cons_zero, Option.some.injEq] at ho
        subst ho
        refine ⟨wanted_none rfl, ?_⟩
        have c0 := (HXQ.out.old hb).c0
        have c1 := (HXQ.out.old hb).c1
        generalize hK : (fun (a' : Act) (w'' : World) => ∃ v : Value, _ ∧ _ ∧ _) = K
        go_simp
        rw [← hK]
        exact ⟨_, rfl, rfl, Below.refl _ _⟩
      | 3, ho =>
        simp only [List.getElem?_cons_succ, List.getElem?_cons_zero, Option.some.injEq] at ho
        subst ho
        refine ⟨wanted_none rfl, ?_⟩
        have e0 : Hid (vs 2 = .agg #[.slice Q.s0.a Q.s0.n Q.s0.c, .slice Q.s1.a Q.s1.n Q.s1.c]) := hd 2 (by kernel_rfl)
        generalize hK : (fun (a' : Act) (w'' : World) => ∃ v : Value, _ ∧ _ ∧ _) = K
        go_simp
        refine (calls_args (by rw [e0.out]) (toReady_any Q _ (HR.out.old hb) HSM.out)).mono ?_
        rintro e w2 ⟨A', rfl, O, D0, N0, B⟩
        rw [← hK]
        exact ⟨_, rfl, ⟨A', _, rfl, OwnY.mono O hb.size, D0, N0⟩, B⟩
      | 4, ho =>
        simp only [List.getElem?_cons_succ, List.getElem?_cons_zero, Option.some.injEq] at ho
        subst ho
        refine ⟨wanted_none rfl, ?_⟩
        have e1 : Hid (vs 1 = .agg #[.int .i64 G.a, .int .i64 G.b, .int .i64 G.r, .int .i64 G.c]) := hd 1 (by kernel_rfl)
        obtain ⟨A', U, ea', O, D0, N0⟩ := hd 3 (by kernel_rfl)
        have ea := hid ea'
        clear ea'
        generalize hK : (fun (a' : Act) (w'' : World) => ∃ v : Value, _ ∧ _ ∧ _) = K
        go_simp
        refine (calls_args (by rw [e1.out, ea.out]) (specReadyOk_any G A' _ (O.reads) (RdyE.small_of D0 HSM.out))).mono ?_
        rintro e w2 ⟨rfl, B⟩
        rw [← hK]
        exact ⟨_, rfl, congrArg (fun d => Value.bool (readyOk G d)) D0, B⟩
      | 5, ho =>
        simp only [List.getElem?_cons_succ, List.getElem?_cons_zero, Option.some.injEq] at ho
        subst ho
        refine ⟨wanted_none rfl, ?_⟩
        have e0 : Hid (vs 4 = .bool (readyOk G Q.d)) := hd 4 (by kernel_rfl)
        generalize hK : (fun (a' : Act) (w'' : World) => ∃ v : Value, _ ∧ _ ∧ _) = K
        go_simp
        rw [← hK]
        exact ⟨_, rfl, e0.out, Below.refl _ _⟩
      | n + 6, ho => simp at ho
    case hend1 =>
      intro vs w2 hb hf
      have er : vs 5 = .bool (readyOk G Q.d) := hf 5 (by decide)
      have HB1 := hid (below_step HB1.out hb (Nat.le_refl _))
      have Sw2 : Hid (w1.heap.size ≤ w2.heap.size) := hid hb.size
      clear hb hf
      generalize vs 5 = ur at er ⊢
      subst er
      generalize hr : readyOk G Q.d = r
      have HRr := hid hr
      clear hr
      have hrr : (r != r) = false := by simp
      go_upto_region 6 with (fail)
      have HXG := hid (HXGw.out.old HB1.out)
      have HXQ := hid (HXQw.out.old HB1.out)
      have HR := hid (HRw.out.old HB1.out)
      have cQ0 := HXQ.out.c0
      have cQ1 := HXQ.out.c1
      go_wp2_with fail
      clear cQ0 cQ1
      refine (toReady_any Q _ (HR.out) HSM.out).mono ?_
      rintro e w3 ⟨X, rfl, O, D0, N0, B⟩
      have HB1 := hid (below_step HB1.out B (Nat.le_refl _))
      have Sw3 : Hid (w2.heap.size ≤ w3.heap.size) := hid B.size
      clear B
      have HOX := hid O
      have HDX := hid D0
      have HNX := hid N0
      clear O D0 N0
      have HSMX := hid (RdyE.small_of HDX.out HSM.out)
      go_upto_region 7 with (fail)
      refine wp_world (fun w4 hw => ?_)
      have HXX : Hid (BoxY w4 w3.heap.size X) := by rw [hw.out]; exact hid (BoxY.new_ _ _ _ rfl)
      have B : Below w3.heap.size w3 w4 := by rw [hw.out]; exact below_alloc _ _
      have HOX := hid (HOX.out.old B)
      have HB1 := hid (below_step HB1.out B (Nat.le_refl _))
      have Sw4 : Hid (w3.heap.size ≤ w4.heap.size) := hid B.size
      clear B hw
      go_upto_region 7 with (fail)
      have HXG := hid (HXGw.out.old HB1.out)
      have HXQ := hid (HXQw.out.old HB1.out)
      have HR := hid (HRw.out.old HB1.out)
      refine grows_of (fr := ?fr2)
        (fun i v w' => match i with
            | 0 => v = .agg #[.int .i64 G.a, .int .i64 G.b, .int .i64 G.r, .int .i64 G.c]
            | 1 => v = .agg #[.int .i64 G.a, .int .i64 G.b, .int .i64 G.r, .int .i64 G.c]
            | 2 => v = .agg #[.slice X.s0.a X.s0.n X.s0.c, .slice X.s1.a X.s1.n X.s1.c]
            | 3 => v = .bool (readyOk G Q.d)
            | _ => v = .bool (readyOk G Q.d)) (by kernel_rfl) (by kernel_rfl) ?hfr2 ⟨fun _ => undef, ?h02⟩ ?hF2 ?hstep2 ?hend2
      case hfr2 => intro vs; simp only [frOf]; go_simp; exact rfl
      case h02 => rfl
      case hF2 =>
        intro i v w' w'' h hb
        match i, h with
        | 0, h => exact h
        | 1, h => exact h
        | 2, h => exact h
        | 3, h => exact h
        | n + 4, h => exact h
      case hstep2 =>
        intro vs w' i o ho hb hd
        match i, ho with
        | 0, ho =>
          simp only [List.getElem?_cons_zero, Option.some.injEq] at ho
          subst ho
          refine ⟨wanted_none rfl, ?_⟩
          have c0 := (HXG.out.old hb).c0
          have c1 := (HXG.out.old hb).c1
          have c2 := (HXG.out.old hb).c2
          have c3 := (HXG.out.old hb).c3
          generalize hK : (fun (a' : Act) (w'' : World) => ∃ v : Value, _ ∧ _ ∧ _) = K
          go_simp
          rw [← hK]
          exact ⟨_, rfl, rfl, Below.refl _ _⟩
        | 1, ho =>
          simp only [List.getElem?_cons_succ, List.getElem?_cons_zero, Option.some.injEq] at ho
          subst ho
          refine ⟨wanted_none rfl, ?_⟩
          have e0 : Hid (vs 0 = .agg #[.int .i64 G.a, .int .i64 G.b, .int .i64 G.r, .int .i64 G.c]) := hd 0 (by kernel_rfl)
          generalize hK : (fun (a' : Act) (w'' : World) => ∃ v : Value, _ ∧ _ ∧ _) = K
          go_simp
          refine (calls_args (by rw [e0.out]) (toGeometry_any G _)).mono ?_
          rintro e w2 ⟨rfl, B⟩
          rw [← hK]
          exact ⟨_, rfl, rfl, B⟩
        | 2, ho =>
          simp only [List.getElem?_cons_succ, List.getElem?_cons_zero, Option.some.injEq] at ho
          subst ho
          refine ⟨wanted_none rfl, ?_⟩
          have c0 := (HXX.out.old hb).c0
          have c1 := (HXX.out.old hb).c1
          generalize hK : (fun (a' : Act) (w'' : World) => ∃ v : Value, _ ∧ _ ∧ _) = K
          go_simp
          rw [← hK]
          exact ⟨_, rfl, rfl, Below.refl _ _⟩
        | 3, ho =>
          simp only [List.getElem?_cons_succ, List.getElem?_cons_zero, Option.some.injEq] at ho
          subst ho
          refine ⟨wanted_none rfl, ?_⟩
          have e1 : Hid (vs 1 = .agg #[.int .i64 G.a, .int .i64 G.b, .int .i64 G.r, .int .i64 G.c]) := hd 1 (by kernel_rfl)
          have ea : Hid (vs 2 = .agg #[.slice X.s0.a X.s0.n X.s0.c, .slice X.s1.a X.s1.n X.s1.c]) := hd 2 (by kernel_rfl)
          generalize hK : (fun (a' : Act) (w'' : World) => ∃ v : Value, _ ∧ _ ∧ _) = K
          go_simp
          refine (calls_args (by rw [e1.out, ea.out]) (implReadyOk_any G X _ (HOX.out.reads.old hb) (HSMX.out))).mono ?_
          rintro e w2 ⟨rfl, B⟩
          rw [← hK]
          exact ⟨_, rfl, congrArg (fun d => Value.bool (readyOk G d)) HDX.out, B⟩
        | 4, ho =>
          simp only [List.getElem?_cons_succ, List.getElem?_cons_zero, Option.some.injEq] at ho
          subst ho
          refine ⟨wanted_none rfl, ?_⟩
          have e0 : Hid (vs 3 = .bool (readyOk G Q.d)) := hd 3 (by kernel_rfl)
          generalize hK : (fun (a' : Act) (w'' : World) => ∃ v : Value, _ ∧ _ ∧ _) = K
          go_simp
          rw [← hK]
          exact ⟨_, rfl, e0.out, Below.refl _ _⟩
        | n + 5, ho => simp at ho
      case hend2 =>
        intro vs w5 hb hf
        have er : vs 4 = .bool (readyOk G Q.d) := hf 4 (by decide)
        have HOX := hid (HOX.out.old hb)
        have HXX := hid (HXX.out.old hb)
        have HB1 := hid (below_step HB1.out hb (Nat.le_refl _))
        have Sw5 : Hid (w4.heap.size ≤ w5.heap.size) := hid hb.size
        clear hb hf
        generalize vs 4 = ur at er ⊢
        subst er
        rw [HRr.out]
        go_upto_region 10 with (fail)
        have HXG := hid (HXGw.out.old HB1.out)
        have HXQ := hid (HXQw.out.old HB1.out)
        have HR := hid (HRw.out.old HB1.out)
        refine grows_of (fr := ?fr3)
          (fun i v w' => match i with
              | 0 => v = .agg #[.slice X.s0.a X.s0.n X.s0.c, .slice X.s1.a X.s1.n X.s1.c]
              | 1 => v = .agg #[.slice Q.s0.a Q.s0.n Q.s0.c, .slice Q.s1.a Q.s1.n Q.s1.c]
              | 2 => ∃ (A' : RdyE) (U : Nat), v = .agg #[.slice A'.s0.a A'.s0.n A'.s0.c, .slice A'.s1.a A'.s1.n A'.s1.c] ∧ OwnY w' w5.heap.size U A' ∧ A'.d = Q.d ∧ A'.n = Q.n
              | 3 => v = .bool true
              | _ => v = .bool false) (by kernel_rfl) (by kernel_rfl) ?hfr3 ⟨fun _ => undef, ?h03⟩ ?hF3 ?hstep3 ?hend3
        case hfr3 => intro vs; simp only [frOf]; go_simp; exact rfl
        case h03 => rfl
        case hF3 =>
          intro i v w' w'' h hb
          match i, h with
          | 0, h => exact h
          | 1, h => exact h
          | 2, h => obtain ⟨A', U, e, o, d, m⟩ := h; exact ⟨A', U, e, o.old hb, d, m⟩
          | 3, h => exact h
          | n + 4, h => exact h
        case hstep3 =>
          intro vs w' i o ho hb hd
          match i, ho with
          | 0, ho =>
            simp only [List.getElem?_cons_zero, Option.some.injEq] at ho
            subst ho
            refine ⟨wanted_none rfl, ?_⟩
            have c0 := (HXX.out.old hb).c0
            have c1 := (HXX.out.old hb).c1
            generalize hK : (fun (a' : Act) (w'' : World) => ∃ v : Value, _ ∧ _ ∧ _) = K
            go_simp
            rw [← hK]
            exact ⟨_, rfl, rfl, Below.refl _ _⟩
          | 1, ho =>
            simp only [List.getElem?_cons_succ, List.getElem?_cons_zero, Option.some.injEq] at ho
            subst ho
            refine ⟨wanted_none rfl, ?_⟩
            have c0 := (HXQ.out.old hb).c0
            have c1 := (HXQ.out.old hb).c1
            generalize hK : (fun (a' : Act) (w'' : World) => ∃ v : Value, _ ∧ _ ∧ _) = K
            go_simp
            rw [← hK]
            exact ⟨_, rfl, rfl, Below.refl _ _⟩
          | 2, ho =>
            simp only [List.getElem?_cons_succ, List.getElem?_cons_zero, Option.some.injEq] at ho
            subst ho
            refine ⟨wanted_none rfl, ?_⟩
            have e0 : Hid (vs 1 = .agg #[.slice Q.s0.a Q.s0.n Q.s0.c, .slice Q.s1.a Q.s1.n Q.s1.c]) := hd 1 (by kernel_rfl)
            generalize hK : (fun (a' : Act) (w'' : World) => ∃ v : Value, _ ∧ _ ∧ _) = K
            go_simp
            refine (calls_args (by rw [e0.out]) (toReady_any Q _ (HR.out.old hb) HSM.out)).mono ?_
            rintro e w2 ⟨A', rfl, O, D0, N0, B⟩
            rw [← hK]
            exact ⟨_, rfl, ⟨A', _, rfl, OwnY.mono O hb.size, D0, N0⟩, B⟩
          | 3, ho =>
            simp only [List.getElem?_cons_succ, List.getElem?_cons_zero, Option.some.injEq] at ho
            subst ho
            refine ⟨wanted_none rfl, ?_⟩
            have e0 : Hid (vs 0 = .agg #[.slice X.s0.a X.s0.n X.s0.c, .slice X.s1.a X.s1.n X.s1.c]) := hd 0 (by kernel_rfl)
            obtain ⟨A', U, ea', O, D0, N0⟩ := hd 2 (by kernel_rfl)
            have ea := hid ea'
            clear ea'
            generalize hK : (fun (a' : Act) (w'' : World) => ∃ v : Value, _ ∧ _ ∧ _) = K
            go_simp
            refine (calls_args (by rw [e0.out, ea.out]) (eqReady_same X A' _ (HOX.out.reads.old hb) O.reads (by rw [HDX.out, D0]) HSMX.out)).mono ?_
            rintro e w2 ⟨rfl, B⟩
            rw [← hK]
            exact ⟨_, rfl, rfl, B⟩
          | 4, ho =>
            simp only [List.getElem?_cons_succ, List.getElem?_cons_zero, Option.some.injEq] at ho
            subst ho
            refine ⟨wanted_none rfl, ?_⟩
            have e3 : vs 3 = .bool true := hd 3 (by kernel_rfl)
            generalize hK : (fun (a' : Act) (w'' : World) => ∃ v : Value, _ ∧ _ ∧ _) = K
            go_simp
            rw [← hK]
            exact ⟨_, by simp [upd, e3], rfl, Below.refl _ _⟩
          | n + 5, ho => simp at ho
        case hend3 =>
          intro vs w6 hb hf
          have er : vs 4 = .bool false := hf 4 (by decide)
          have HOX := hid (HOX.out.old hb)
          have HXX := hid (HXX.out.old hb)
          have HB1 := hid (below_step HB1.out hb (Nat.le_refl _))
          have Sw6 : Hid (w5.heap.size ≤ w6.heap.size) := hid hb.size
          clear hb hf
          generalize vs 4 = ur at er ⊢
          subst er
          go_wp2_with fail
          go_ret
          exact ⟨rfl, below_step HB.out HB1.out (Nat.le_refl _)⟩
  · have HA := hid hQ
    have HT := hid (szT_no (t := Q.n) (left := 1048576) (by omega))
    clear hQ
    go_enter Try.func10, Try.ntmps10
    go_wp2_with fail
    refine (szReady_any Q _ _ HA.out.max (by omega) (by omega)).mono ?_
    rintro e w1 ⟨rfl, B1⟩
    rw [HT.out]
    go_wp2_with fail
    go_ret
    exact ⟨rfl, below_step (below_alloc2 _ _ _) B1 (Nat.le_refl _)⟩

set_option maxRecDepth 100000 in
theorem lifted (os : Os) (started : os.Started) (H : Type) (enc : TypeId × Value → H) :
    ReturnsInHanded {} Try.checked os 10 .any (Rows.fnExactReadyOkSpec.pre6 enc Try.prog Try.f10 Rows.fnExactReadyOkRow.domain false) (Rows.fnExactReadyOkSpec.post enc Try.prog Try.f10 false true false false) := by
  refine returnsInHanded_of_change (C := Try.checked) own started (by kernel_rfl) Try.func10
    (ChangeSpec.witness6 (enc := enc) (C := Try.checked) false ⟨#[], #[.agg #[.int .i64 0, .int .i64 0, .int .i64 0, .int .i64 0], .agg #[.slice none 0 0, .slice none 0 0]], []⟩ 8 (by kernel_rfl) (by kernel_rfl) (by kernel_rfl) (by kernel_rfl)) ?_
  intro W base args ds gs before hval0 hW hcnd _
  have hval : ∀ (j : Nat) t v, Try.f10.params[j]? = some t → args[j]? = some v → Value.okWide Try.prog W .any base t v := hval0
  have hW' := hW
  obtain ⟨p, q, hA0, hV, rfl, hfz, hnd⟩ := hW
  have hA : DataW.TrodAll enc Try.prog W 0 (fun _ => true) true Try.f10.params.toList args.toList ds p := hA0
  rw [Try.params10] at hA hval
  obtain ⟨v0, vs0, d0, ds0, p0, q0, hargs, rfl, rfl, h0, r0⟩ := trodAll_cons hA
  obtain ⟨v1, vs1, d1, ds1, p1, q1, rfl, rfl, rfl, h1, r1⟩ := trodAll_cons r0
  obtain ⟨rfl, rfl, rfl⟩ := trodAll_nil r1
  obtain rfl : args = #[v0, v1] := by cases args; simp_all
  obtain ⟨rfl, rfl⟩ := trodVars_none hV
  have k0 := h0
  have lt0 : ∀ x ∈ p0, x.block < W.heap.size := by obtain ⟨m, hm⟩ := k0; exact DataW.trod_lt m _ _ _ hm
  obtain ⟨G, rfl⟩ := open_geo (hval 0 34 v0 rfl rfl) h0
  have k1 := h1
  have lt1 : ∀ x ∈ p1, x.block < W.heap.size := by obtain ⟨m, hm⟩ := k1; exact DataW.trod_lt m _ _ _ hm
  obtain ⟨Q, rfl, hArgQ⟩ := open_ready (hval 1 67 v1 rfl rfl) h1
  clear hA0 hval0
  refine (walk W G Q hArgQ).mono fun e W' ⟨he, bel⟩ => ?_
  subst he
  exact ⟨_, rfl, _, _, _, [], _, [], hW', trodAll_mk1 (shut_bool Try.underlying4 _), (trodAll_cons_mk (Below.trod laidOut (by kernel_rfl) (of_decide_eq_true (by kernel_rfl)) k0 bel lt0) (trodAll_cons_mk (Below.trod laidOut (by kernel_rfl) (of_decide_eq_true (by kernel_rfl)) k1 bel lt1) trodAll_mk0)), rfl, bel.frame _, fun h => by cases h⟩

theorem own_facts : joinedFacts Try.prog 10 Try.f10 Rows.fnExactReadyOkSpec Rows.fnExactReadyOkRow = true :=
  facts_of 10 Try.f10 Rows.fnExactReadyOkSpec Rows.fnExactReadyOkRow (by as_aux_lemma => kernel_rfl) (by as_aux_lemma => kernel_rfl) (by as_aux_lemma => kernel_rfl) rfl rfl
    (by as_aux_lemma => kernel_rfl) (by as_aux_lemma => kernel_rfl) (by as_aux_lemma => kernel_rfl) (by as_aux_lemma => kernel_rfl)
    (by as_aux_lemma => kernel_rfl) (by as_aux_lemma => kernel_rfl) (by as_aux_lemma => kernel_rfl) (by as_aux_lemma => kernel_rfl) (by as_aux_lemma => kernel_rfl)
    (by as_aux_lemma => kernel_rfl) (by as_aux_lemma => kernel_rfl) (by as_aux_lemma => kernel_rfl) (by as_aux_lemma => kernel_rfl)
    rfl rfl rfl rfl (by as_aux_lemma => kernel_rfl) (by as_aux_lemma => kernel_rfl) (by as_aux_lemma => kernel_rfl) (by as_aux_lemma => kernel_rfl)
theorem over : Rows.fnExactReadyOkRow.holds Try.pinned (OpenSpec.ofChange Rows.fnExactReadyOkSpec) :=
  OpenClaim.holds_of_wide 10 Try.f10 rfl rfl rfl rfl rfl rfl rfl ⟨rfl, rfl, rfl, rfl, rfl⟩ rfl rfl rfl rfl rfl (by as_aux_lemma => kernel_rfl) Try.func10 own_facts
    (of_decide_eq_true (by as_aux_lemma => kernel_rfl)) (by unfold Func.isWrapper; first | (rw [if_pos (by decide +kernel)]; kernel_rfl) | (rw [if_neg (by decide +kernel)]; exact ⟨rfl, rfl⟩))
    (fun os started H enc _ => lifted os started H enc)

theorem proved : Rows.FnExactReadyOkSaid := over
#print axioms proved
end Go.Proofs.Ytdhfkhpdehgfaaa.fnExactReadyOk
