/- The law 'FnExactReadyAfter': for every input the program's function and the reference's agree, so the call returns true and leaves its arguments as they were; no condition. -/
import Derived.Test.YtggjheapjklhgaaRows
import Derived.Test.YtggjheapjklhgaaHead
import Derived.Test.YtggjheapjklhgaaLwR
import Derived.Test.YtggjheapjklhgaaRyB
import Derived.Test.YtggjheapjklhgaaRdyW
import Derived.Test.YtggjheapjklhgaaEvtW
import Derived.Test.YtggjheapjklhgaaAdrW
import Derived.Test.YtggjheapjklhgaaOpenY
import Derived.Test.YtggjheapjklhgaaOpenT
import Derived.Test.YtggjheapjklhgaaOpenE
import Derived.WalkKit
import Derived.ProofKit
import Derived.OpenShut
import Derived.ShutString
import Derived.ChangeOld
import Derived.Below
namespace Go.Proofs.Ytggjheapjklhgaa.fnExactReadyAfter
open Go.ChangeShapes Go.WideShapes Go.ChangeAt Go.RowKit
set_option linter.unusedVariables false

theorem own : ownKnob Try.prog.godebug = none := by kernel_rfl
theorem laidOut : laidOutB Try.prog = true := by kernel_rfl


set_option maxRecDepth 100000 in
theorem walk (w : World) (G : Geo) (Q : RdyE) (hQ : ArgReady w Q) (Ve : Ev) :
    Calls Try.prog 4 #[.agg #[.int .i64 G.a, .int .i64 G.b, .int .i64 G.r, .int .i64 G.c], .agg #[.slice Q.s0.a Q.s0.n Q.s0.c, .slice Q.s1.a Q.s1.n Q.s1.c], .agg #[.int .i64 Ve.t, .int .i64 Ve.c.k, .int .i64 Ve.c.b, .int .i64 Ve.c.r, .int .i64 Ve.c.c]] w fun e w' => e = .returned (.bool true) ∧ Below w.heap.size w w' := by
  obtain ⟨vd, hvd⟩ : ∃ d : RdyD, readyAfter G Q.d Ve = d := ⟨_, rfl⟩
  have HVD := hid hvd
  clear hvd
  by_cases hsz : (Q.n : Int) ≤ 1048576
  · have HA := hid hQ
    have hn : Q.n ≤ 1048576 := by omega
    have HNM := hid hn
    have HSM := hid (HA.out.small hsz)
    have HT := hid (szT_yes hsz)
    have h0 : (0 : Int) ≤ 1048576 - Q.n := by omega
    generalize hleft : (1048576 : Int) - Q.n = left at h0 HT
    have hdl : decide (left < 0) = false := by simp; omega
    clear hQ hleft hn
    go_enter Try.func4, Try.ntmps4
    go_wp2_with fail
    refine (szReady_any Q _ _ HA.out.max (by omega) (by omega)).mono ?_
    rintro e w1 ⟨rfl, B1⟩
    rw [HT.out]
    have HB := hid (below_step (below_alloc3 _ _ _ _) B1 (Nat.le_refl _))
    have HXGw := hid ((((BoxG.new_ w 48 G (show _ = w.heap.size by simp)).old (below_alloc _ _)).old (below_alloc _ _)).old B1)
    have HXQw := hid (((BoxY.new_ (w.alloc _) 49 Q (show _ = w.heap.size + 1 by simp)).old (below_alloc _ _)).old B1)
    have HXVew := hid ((BoxEv.new_ ((w.alloc _).alloc _) 52 Ve (show _ = w.heap.size + 1 + 1 by simp)).old B1)
    have HRw := hid (HA.out.reads.old HB.out)
    have hB1 := hid (Below.refl w1.heap.size w1)
    have HB1 := hB1
    clear hB1 B1
    go_upto_region 5 with (fail)
    have HXG := hid (HXGw.out.old HB1.out)
    have HXQ := hid (HXQw.out.old HB1.out)
    have HXVe := hid (HXVew.out.old HB1.out)
    have HR := hid (HRw.out.old HB1.out)
    refine growR_of 8 (fr := ?fr1)
      (fun i v w' => match i with
          | 0 => v = .agg #[.int .i64 G.a, .int .i64 G.b, .int .i64 G.r, .int .i64 G.c]
          | 1 => v = .agg #[.int .i64 G.a, .int .i64 G.b, .int .i64 G.r, .int .i64 G.c]
          | 2 => v = .agg #[.slice Q.s0.a Q.s0.n Q.s0.c, .slice Q.s1.a Q.s1.n Q.s1.c]
          | 3 => ∃ (A' : RdyE) (U : Nat), v = .agg #[.slice A'.s0.a A'.s0.n A'.s0.c, .slice A'.s1.a A'.s1.n A'.s1.c] ∧ OwnY w' w1.heap.size U A' ∧ A'.d = Q.d ∧ A'.n = Q.n
          | 4 => v = .agg #[.int .i64 Ve.t, .int .i64 Ve.c.k, .int .i64 Ve.c.b, .int .i64 Ve.c.r, .int .i64 Ve.c.c]
          | 5 => v = .agg #[.int .i64 Ve.t, .int .i64 Ve.c.k, .int .i64 Ve.c.b, .int .i64 Ve.c.r, .int .i64 Ve.c.c]
          | 6 => ∃ Lx : RdyE, v = .agg #[.slice Lx.s0.a Lx.s0.n Lx.s0.c, .slice Lx.s1.a Lx.s1.n Lx.s1.c] ∧ OwnY w' w1.heap.size w'.heap.size Lx ∧ Lx.d = vd
          | _ => ∃ g : Nat, v = .pointer (some ⟨g, 0, none⟩) ∧ w1.heap.size ≤ g ∧ Blk w' g 37 [.slice none 0 0, .slice none 0 0]
        ) (by kernel_rfl) (by kernel_rfl) (by decide) (by kernel_rfl) ?hfr1 ⟨fun _ => undef, ?h01⟩ ?hF1 ?hstep1 ?hend1
    case hfr1 => intro vs; simp only [frOf, List.take_succ_cons, List.take_zero]; go_simp; exact rfl
    case h01 => rfl
    case hF1 =>
      intro i v w' w'' h hb
      match i, h with
      | 0, h => exact h
      | 1, h => exact h
      | 2, h => exact h
      | 3, h => obtain ⟨A', U, e, o, d, m⟩ := h; exact ⟨A', U, e, o.old hb, d, m⟩
      | 4, h => exact h
      | 5, h => exact h
      | 6, h => obtain ⟨Lx, e, o, d⟩ := h; exact ⟨Lx, e, OwnY.up (o.old hb) hb.size (Nat.le_refl _), d⟩
      | n + 7, h => obtain ⟨g, e, l, o⟩ := h; exact ⟨g, e, l, o.old hb⟩
    case hstep1 =>
      intro vs w' i o hin ho hb hd
      match i, ho, hin with
      | 0, ho, _ =>
        simp only [List.getElem?_cons_zero, Option.some.injEq] at ho
        subst ho
        refine ⟨wanted_none rfl, ?_⟩
        have c0 := (HXG.out.old hb).c0
        have c1 := (HXG.out.old hb).c1
        have c2 := (HXG.out.old hb).c2
        have c3 := (HXG.out.old hb).c3
        generalize hK : (fun (a' : Act) (w'' : World) => ∃ v : Value, _ ∧ _ ∧ _) = K
        go_simp
        rw [← hK]
        exact ⟨_, rfl, rfl, Below.refl _ _⟩
      | 1, ho, _ =>
        simp only [List.getElem?_cons_succ, List.getElem?_cons_zero, Option.some.injEq] at ho
        subst ho
        refine ⟨wanted_none rfl, ?_⟩
        have e0 : Hid (vs 0 = .agg #[.int .i64 G.a, .int .i64 G.b, .int .i64 G.r, .int .i64 G.c]) := hd 0 (by kernel_rfl)
        generalize hK : (fun (a' : Act) (w'' : World) => ∃ v : Value, _ ∧ _ ∧ _) = K
        go_simp
        refine (calls_args (by rw [e0.out]) (toGeometry_any G _)).mono ?_
        rintro e w2 ⟨rfl, B⟩
        rw [← hK]
        exact ⟨_, rfl, rfl, B⟩
      | 2, ho, _ =>
        simp only [List.getElem?_cons_succ, List.getElem?_cons_zero, Option.some.injEq] at ho
        subst ho
        refine ⟨wanted_none rfl, ?_⟩
        have c0 := (HXQ.out.old hb).c0
        have c1 := (HXQ.out.old hb).c1
        generalize hK : (fun (a' : Act) (w'' : World) => ∃ v : Value, _ ∧ _ ∧ _) = K
        go_simp
        rw [← hK]
        exact ⟨_, rfl, rfl, Below.refl _ _⟩
      | 3, ho, _ =>
        simp only [List.getElem?_cons_succ, List.getElem?_cons_zero, Option.some.injEq] at ho
        subst ho
        refine ⟨wanted_none rfl, ?_⟩
        have e0 : Hid (vs 2 = .agg #[.slice Q.s0.a Q.s0.n Q.s0.c, .slice Q.s1.a Q.s1.n Q.s1.c]) := hd 2 (by kernel_rfl)
        generalize hK : (fun (a' : Act) (w'' : World) => ∃ v : Value, _ ∧ _ ∧ _) = K
        go_simp
        refine (calls_args (by rw [e0.out]) (toReady_any Q _ (HR.out.old hb) HSM.out)).mono ?_
        rintro e w2 ⟨A', rfl, O, D0, N0, B⟩
        rw [← hK]
        exact ⟨_, rfl, ⟨A', _, rfl, OwnY.mono O hb.size, D0, N0⟩, B⟩
      | 4, ho, _ =>
        simp only [List.getElem?_cons_succ, List.getElem?_cons_zero, Option.some.injEq] at ho
        subst ho
        refine ⟨wanted_none rfl, ?_⟩
        have c0 := (HXVe.out.old hb).c0
        have c1 := (HXVe.out.old hb).c1
        have c2 := (HXVe.out.old hb).c2
        have c3 := (HXVe.out.old hb).c3
        have c4 := (HXVe.out.old hb).c4
        generalize hK : (fun (a' : Act) (w'' : World) => ∃ v : Value, _ ∧ _ ∧ _) = K
        go_simp
        rw [← hK]
        exact ⟨_, rfl, rfl, Below.refl _ _⟩
      | 5, ho, _ =>
        simp only [List.getElem?_cons_succ, List.getElem?_cons_zero, Option.some.injEq] at ho
        subst ho
        refine ⟨wanted_none rfl, ?_⟩
        have e0 : Hid (vs 4 = .agg #[.int .i64 Ve.t, .int .i64 Ve.c.k, .int .i64 Ve.c.b, .int .i64 Ve.c.r, .int .i64 Ve.c.c]) := hd 4 (by kernel_rfl)
        generalize hK : (fun (a' : Act) (w'' : World) => ∃ v : Value, _ ∧ _ ∧ _) = K
        go_simp
        refine (calls_args (by rw [e0.out]) (toEvent_any Ve _)).mono ?_
        rintro e w2 ⟨rfl, B⟩
        rw [← hK]
        exact ⟨_, rfl, rfl, B⟩
      | 6, ho, _ =>
        simp only [List.getElem?_cons_succ, List.getElem?_cons_zero, Option.some.injEq] at ho
        subst ho
        refine ⟨wanted_none rfl, ?_⟩
        have e1 : Hid (vs 1 = .agg #[.int .i64 G.a, .int .i64 G.b, .int .i64 G.r, .int .i64 G.c]) := hd 1 (by kernel_rfl)
        obtain ⟨A', U, ea', O', D0, N0⟩ := hd 3 (by kernel_rfl)
        have ea := hid ea'
        clear ea'
        have e5 : Hid (vs 5 = .agg #[.int .i64 Ve.t, .int .i64 Ve.c.k, .int .i64 Ve.c.b, .int .i64 Ve.c.r, .int .i64 Ve.c.c]) := hd 5 (by kernel_rfl)
        generalize hK : (fun (a' : Act) (w'' : World) => ∃ v : Value, _ ∧ _ ∧ _) = K
        go_simp
        refine (calls_args (by rw [e1.out, ea.out, e5.out]) (specReadyAfter_any G A' Ve _ (O'.reads) (RdyE.small_of D0 HSM.out))).mono ?_
        rintro e w2 ⟨Lx, rfl, O, D1, B⟩
        rw [← hK]
        exact ⟨_, rfl, ⟨Lx, rfl, OwnY.mono O hb.size, D1.trans (by rw [D0, HVD.out])⟩, B⟩
      | 7, ho, _ =>
        simp only [List.getElem?_cons_succ, List.getElem?_cons_zero, Option.some.injEq] at ho
        subst ho
        refine ⟨wanted_none rfl, ?_⟩
        generalize hK : (fun (a' : Act) (w'' : World) => ∃ v : Value, _ ∧ _ ∧ _) = K
        go_simp
        rw [← hK]
        exact ⟨_, rfl, ⟨_, rfl, hb.size, Blk.new _ _ _⟩, below_alloc _ _⟩
      | n + 8, _, hin => exact absurd hin (by omega)
    case hend1 =>
      intro vs w3 hb hf
      obtain ⟨Y, er, O, D0⟩ := hf 6 (by decide)
      obtain ⟨gY, ep, hg1, N⟩ := hf 7 (by decide)
      have HSS := hid (ready_stored N O hg1)
      have HDY := hid D0
      have HHB0 := hid hb
      have HHG := hid hg1
      have HLT := hid N.lt
      have c0 := N.cell (j := 0) rfl
      have c1 := N.cell (j := 1) rfl
      have f0 := N.frozen 0
      have f1 := N.frozen 1
      clear O N hg1 D0 hf hb
      generalize vs 6 = ur at er ⊢
      subst er
      generalize vs 7 = up at ep ⊢
      subst ep
      simp only [List.drop_succ_cons, List.drop_zero]
      refine wpTail_plain rfl fun K hK => ?_
      go_simp
      refine hK _ _ (wpTail_nil ?_)
      clear c0 c1 f0 f1
      go_upto_region 6 with (fail)
      refine wp_world (fun w2 hw => ?_)
      have HSX : Hid (Blk w2 gY 37 [.slice Y.s0.a Y.s0.n Y.s0.c, .slice Y.s1.a Y.s1.n Y.s1.c] ∧ OwnY w2 w1.heap.size w2.heap.size Y ∧ Below w1.heap.size w3 w2 ∧ ¬ blkY Y gY) := by rw [hw.out]; exact HSS
      clear hw HSS
      have HVY_ := hid HSX.out.1
      have HOY_ := hid HSX.out.2.1
      have HNY := hid HSX.out.2.2.2
      have HHB := hid (HHB0.out.trans HSX.out.2.2.1)
      have hlY := HVY_.out.lt
      have HGY : Hid (w1.heap.size ≤ gY ∧ gY < w2.heap.size) := hid ⟨HHG.out, hlY⟩
      clear HSX HHG HLT hlY HHB0
      have HB1 := hid (below_step HB1.out HHB.out (Nat.le_refl _))
      have Sw2 : Hid (w1.heap.size ≤ w2.heap.size) := hid HHB.out.size
      clear HHB
      have HOY := HOY_
      have HVY := HVY_
      clear HOY_ HVY_
      go_upto_region 6 with (fail)
      have HXG := hid (HXGw.out.old HB1.out)
      have HXQ := hid (HXQw.out.old HB1.out)
      have HXVe := hid (HXVew.out.old HB1.out)
      have HR := hid (HRw.out.old HB1.out)
      have cQ0 := HXQ.out.c0
      have cQ1 := HXQ.out.c1
      go_wp2_with fail
      clear cQ0 cQ1
      refine (toReady_any Q _ (HR.out) HSM.out).mono ?_
      rintro e w4 ⟨X, rfl, O, D0, N0, B⟩
      have HOY := hid (HOY.out.old B)
      have HVY := hid (HVY.out.old B)
      have HB1 := hid (below_step HB1.out B (Nat.le_refl _))
      have Sw4 : Hid (w2.heap.size ≤ w4.heap.size) := hid B.size
      clear B
      have HOX := hid O
      have HDX := hid D0
      have HNX := hid N0
      clear O D0 N0
      have HSMX := hid (RdyE.small_of HDX.out HSM.out)
      go_upto_region 7 with (fail)
      refine wp_world (fun w5 hw => ?_)
      have HXX : Hid (BoxY w5 w4.heap.size X) := by rw [hw.out]; exact hid (BoxY.new_ _ _ _ rfl)
      have B : Below w4.heap.size w4 w5 := by rw [hw.out]; exact below_alloc _ _
      have HOX := hid (HOX.out.old B)
      have HOY := hid (HOY.out.old B)
      have HVY := hid (HVY.out.old B)
      have HB1 := hid (below_step HB1.out B (Nat.le_refl _))
      have Sw5 : Hid (w4.heap.size ≤ w5.heap.size) := hid B.size
      clear B hw
      go_upto_region 7 with (fail)
      have HXG := hid (HXGw.out.old HB1.out)
      have HXQ := hid (HXQw.out.old HB1.out)
      have HXVe := hid (HXVew.out.old HB1.out)
      have HR := hid (HRw.out.old HB1.out)
      refine growR_of 7 (fr := ?fr2)
        (fun i v w' => match i with
            | 0 => v = .agg #[.int .i64 G.a, .int .i64 G.b, .int .i64 G.r, .int .i64 G.c]
            | 1 => v = .agg #[.int .i64 G.a, .int .i64 G.b, .int .i64 G.r, .int .i64 G.c]
            | 2 => v = .agg #[.slice X.s0.a X.s0.n X.s0.c, .slice X.s1.a X.s1.n X.s1.c]
            | 3 => v = .agg #[.int .i64 Ve.t, .int .i64 Ve.c.k, .int .i64 Ve.c.b, .int .i64 Ve.c.r, .int .i64 Ve.c.c]
            | 4 => v = .agg #[.int .i64 Ve.t, .int .i64 Ve.c.k, .int .i64 Ve.c.b, .int .i64 Ve.c.r, .int .i64 Ve.c.c]
            | 5 => ∃ Lx : RdyE, v = .agg #[.slice Lx.s0.a Lx.s0.n Lx.s0.c, .slice Lx.s1.a Lx.s1.n Lx.s1.c] ∧ OwnY w' w5.heap.size w'.heap.size Lx ∧ Lx.d = vd
            | _ => ∃ g : Nat, v = .pointer (some ⟨g, 0, none⟩) ∧ w5.heap.size ≤ g ∧ Blk w' g 37 [.slice none 0 0, .slice none 0 0]
          ) (by kernel_rfl) (by kernel_rfl) (by decide) (by kernel_rfl) ?hfr2 ⟨fun _ => undef, ?h02⟩ ?hF2 ?hstep2 ?hend2
      case hfr2 => intro vs; simp only [frOf, List.take_succ_cons, List.take_zero]; go_simp; exact rfl
      case h02 => rfl
      case hF2 =>
        intro i v w' w'' h hb
        match i, h with
        | 0, h => exact h
        | 1, h => exact h
        | 2, h => exact h
        | 3, h => exact h
        | 4, h => exact h
        | 5, h => obtain ⟨Lx, e, o, d⟩ := h; exact ⟨Lx, e, OwnY.up (o.old hb) hb.size (Nat.le_refl _), d⟩
        | n + 6, h => obtain ⟨g, e, l, o⟩ := h; exact ⟨g, e, l, o.old hb⟩
      case hstep2 =>
        intro vs w' i o hin ho hb hd
        match i, ho, hin with
        | 0, ho, _ =>
          simp only [List.getElem?_cons_zero, Option.some.injEq] at ho
          subst ho
          refine ⟨wanted_none rfl, ?_⟩
          have c0 := (HXG.out.old hb).c0
          have c1 := (HXG.out.old hb).c1
          have c2 := (HXG.out.old hb).c2
          have c3 := (HXG.out.old hb).c3
          generalize hK : (fun (a' : Act) (w'' : World) => ∃ v : Value, _ ∧ _ ∧ _) = K
          go_simp
          rw [← hK]
          exact ⟨_, rfl, rfl, Below.refl _ _⟩
        | 1, ho, _ =>
          simp only [List.getElem?_cons_succ, List.getElem?_cons_zero, Option.some.injEq] at ho
          subst ho
          refine ⟨wanted_none rfl, ?_⟩
          have e0 : Hid (vs 0 = .agg #[.int .i64 G.a, .int .i64 G.b, .int .i64 G.r, .int .i64 G.c]) := hd 0 (by kernel_rfl)
          generalize hK : (fun (a' : Act) (w'' : World) => ∃ v : Value, _ ∧ _ ∧ _) = K
          go_simp
          refine (calls_args (by rw [e0.out]) (toGeometry_any G _)).mono ?_
          rintro e w2 ⟨rfl, B⟩
          rw [← hK]
          exact ⟨_, rfl, rfl, B⟩
        | 2, ho, _ =>
          simp only [List.getElem?_cons_succ, List.getElem?_cons_zero, Option.some.injEq] at ho
          subst ho
          refine ⟨wanted_none rfl, ?_⟩
          have c0 := (HXX.out.old hb).c0
          have c1 := (HXX.out.old hb).c1
          generalize hK : (fun (a' : Act) (w'' : World) => ∃ v : Value, _ ∧ _ ∧ _) = K
          go_simp
          rw [← hK]
          exact ⟨_, rfl, rfl, Below.refl _ _⟩
        | 3, ho, _ =>
          simp only [List.getElem?_cons_succ, List.getElem?_cons_zero, Option.some.injEq] at ho
          subst ho
          refine ⟨wanted_none rfl, ?_⟩
          have c0 := (HXVe.out.old hb).c0
          have c1 := (HXVe.out.old hb).c1
          have c2 := (HXVe.out.old hb).c2
          have c3 := (HXVe.out.old hb).c3
          have c4 := (HXVe.out.old hb).c4
          generalize hK : (fun (a' : Act) (w'' : World) => ∃ v : Value, _ ∧ _ ∧ _) = K
          go_simp
          rw [← hK]
          exact ⟨_, rfl, rfl, Below.refl _ _⟩
        | 4, ho, _ =>
          simp only [List.getElem?_cons_succ, List.getElem?_cons_zero, Option.some.injEq] at ho
          subst ho
          refine ⟨wanted_none rfl, ?_⟩
          have e0 : Hid (vs 3 = .agg #[.int .i64 Ve.t, .int .i64 Ve.c.k, .int .i64 Ve.c.b, .int .i64 Ve.c.r, .int .i64 Ve.c.c]) := hd 3 (by kernel_rfl)
          generalize hK : (fun (a' : Act) (w'' : World) => ∃ v : Value, _ ∧ _ ∧ _) = K
          go_simp
          refine (calls_args (by rw [e0.out]) (toEvent_any Ve _)).mono ?_
          rintro e w2 ⟨rfl, B⟩
          rw [← hK]
          exact ⟨_, rfl, rfl, B⟩
        | 5, ho, _ =>
          simp only [List.getElem?_cons_succ, List.getElem?_cons_zero, Option.some.injEq] at ho
          subst ho
          refine ⟨wanted_none rfl, ?_⟩
          have e1 : Hid (vs 1 = .agg #[.int .i64 G.a, .int .i64 G.b, .int .i64 G.r, .int .i64 G.c]) := hd 1 (by kernel_rfl)
          have ea : Hid (vs 2 = .agg #[.slice X.s0.a X.s0.n X.s0.c, .slice X.s1.a X.s1.n X.s1.c]) := hd 2 (by kernel_rfl)
          have e4 : Hid (vs 4 = .agg #[.int .i64 Ve.t, .int .i64 Ve.c.k, .int .i64 Ve.c.b, .int .i64 Ve.c.r, .int .i64 Ve.c.c]) := hd 4 (by kernel_rfl)
          generalize hK : (fun (a' : Act) (w'' : World) => ∃ v : Value, _ ∧ _ ∧ _) = K
          go_simp
          refine (calls_args (by rw [e1.out, ea.out, e4.out]) (implReadyAfter_any G X Ve _ (HOX.out.reads.old hb) (HSMX.out))).mono ?_
          rintro e w2 ⟨Lx, rfl, O, D1, B⟩
          rw [← hK]
          exact ⟨_, rfl, ⟨Lx, rfl, OwnY.mono O hb.size, D1.trans (by rw [HDX.out, HVD.out])⟩, B⟩
        | 6, ho, _ =>
          simp only [List.getElem?_cons_succ, List.getElem?_cons_zero, Option.some.injEq] at ho
          subst ho
          refine ⟨wanted_none rfl, ?_⟩
          generalize hK : (fun (a' : Act) (w'' : World) => ∃ v : Value, _ ∧ _ ∧ _) = K
          go_simp
          rw [← hK]
          exact ⟨_, rfl, ⟨_, rfl, hb.size, Blk.new _ _ _⟩, below_alloc _ _⟩
        | n + 7, _, hin => exact absurd hin (by omega)
      case hend2 =>
        intro vs w7 hb hf
        obtain ⟨Z, er, O, D0⟩ := hf 5 (by decide)
        obtain ⟨gZ, ep, hg1, N⟩ := hf 6 (by decide)
        have HSS := hid (ready_stored N O hg1)
        have HDZ := hid D0
        have HHB0 := hid hb
        have HHG := hid hg1
        have HLT := hid N.lt
        have c0 := N.cell (j := 0) rfl
        have c1 := N.cell (j := 1) rfl
        have f0 := N.frozen 0
        have f1 := N.frozen 1
        clear O N hg1 D0 hf hb
        generalize vs 5 = ur at er ⊢
        subst er
        generalize vs 6 = up at ep ⊢
        subst ep
        simp only [List.drop_succ_cons, List.drop_zero]
        refine wpTail_plain rfl fun K hK => ?_
        go_simp
        refine hK _ _ (wpTail_nil ?_)
        clear c0 c1 f0 f1
        go_upto_region 8 with (fail)
        refine wp_world (fun w6 hw => ?_)
        have HSX : Hid (Blk w6 gZ 37 [.slice Z.s0.a Z.s0.n Z.s0.c, .slice Z.s1.a Z.s1.n Z.s1.c] ∧ OwnY w6 w5.heap.size w6.heap.size Z ∧ Below w5.heap.size w7 w6 ∧ ¬ blkY Z gZ) := by rw [hw.out]; exact HSS
        clear hw HSS
        have HVZ_ := hid HSX.out.1
        have HOZ_ := hid HSX.out.2.1
        have HNZ := hid HSX.out.2.2.2
        have HHB := hid (HHB0.out.trans HSX.out.2.2.1)
        have hlZ := HVZ_.out.lt
        have HGZ : Hid (w5.heap.size ≤ gZ ∧ gZ < w6.heap.size) := hid ⟨HHG.out, hlZ⟩
        clear HSX HHG HLT hlZ HHB0
        have HOY := hid (HOY.out.old HHB.out)
        have HVY := hid (HVY.out.old HHB.out)
        have HOX := hid (HOX.out.old HHB.out)
        have HXX := hid (HXX.out.old HHB.out)
        have HB1 := hid (below_step HB1.out HHB.out (Nat.le_refl _))
        have Sw6 : Hid (w5.heap.size ≤ w6.heap.size) := hid HHB.out.size
        clear HHB
        have HOZ := HOZ_
        have HVZ := HVZ_
        clear HOZ_ HVZ_
        have HSMZ : Hid (Z.small) := hid (readyAfter_small (HVD.out.trans HDZ.out.symm) HSM.out)
        have HZN : Hid (Z.s0.n ≤ 1048576 ∧ Z.s1.n ≤ 1048576) := hid ⟨by rw [HOZ.out.reads.l0]; exact HSMZ.out.1, by rw [HOZ.out.reads.l1]; exact HSMZ.out.2⟩
        go_upto_region 8 with (fail)
        have HXG := hid (HXGw.out.old HB1.out)
        have HXQ := hid (HXQw.out.old HB1.out)
        have HXVe := hid (HXVew.out.old HB1.out)
        have HR := hid (HRw.out.old HB1.out)
        have cZ0 := HVZ.out.cell (j := 0) rfl
        have cZ1 := HVZ.out.cell (j := 1) rfl
        have cY0 := HVY.out.cell (j := 0) rfl
        have cY1 := HVY.out.cell (j := 1) rfl
        go_wp2_with fail
        clear cZ0 cZ1 cY0 cY1
        refine (eqReady_same Z Y _ HOZ.out.reads HOY.out.reads (by rw [HDZ.out, HDY.out]) HSMZ.out).mono ?_
        rintro e w8 ⟨rfl, B⟩
        have HOY := hid (HOY.out.old B)
        have HVY := hid (HVY.out.old B)
        have HOX := hid (HOX.out.old B)
        have HXX := hid (HXX.out.old B)
        have HOZ := hid (HOZ.out.old B)
        have HVZ := hid (HVZ.out.old B)
        have HB1 := hid (below_step HB1.out B (Nat.le_refl _))
        have Sw8 : Hid (w6.heap.size ≤ w8.heap.size) := hid B.size
        clear B
        go_upto_region 10 with (fail)
        have HXG := hid (HXGw.out.old HB1.out)
        have HXQ := hid (HXQw.out.old HB1.out)
        have HXVe := hid (HXVew.out.old HB1.out)
        have HR := hid (HRw.out.old HB1.out)
        refine growR_of 5 (fr := ?fr3)
          (fun i v w' => match i with
              | 0 => v = .agg #[.slice X.s0.a X.s0.n X.s0.c, .slice X.s1.a X.s1.n X.s1.c]
              | 1 => v = .agg #[.slice Q.s0.a Q.s0.n Q.s0.c, .slice Q.s1.a Q.s1.n Q.s1.c]
              | 2 => ∃ (A' : RdyE) (U : Nat), v = .agg #[.slice A'.s0.a A'.s0.n A'.s0.c, .slice A'.s1.a A'.s1.n A'.s1.c] ∧ OwnY w' w8.heap.size U A' ∧ A'.d = Q.d ∧ A'.n = Q.n
              | 3 => v = .bool true
              | _ => v = .bool false
            ) (by kernel_rfl) (by kernel_rfl) (by decide) (by kernel_rfl) ?hfr3 ⟨fun _ => undef, ?h03⟩ ?hF3 ?hstep3 ?hend3
        case hfr3 => intro vs; simp only [frOf, List.take_succ_cons, List.take_zero]; go_simp; exact rfl
        case h03 => rfl
        case hF3 =>
          intro i v w' w'' h hb
          match i, h with
          | 0, h => exact h
          | 1, h => exact h
          | 2, h => obtain ⟨A', U, e, o, d, m⟩ := h; exact ⟨A', U, e, o.old hb, d, m⟩
          | 3, h => exact h
          | n + 4, h => exact h
        case hstep3 =>
          intro vs w' i o hin ho hb hd
          match i, ho, hin with
          | 0, ho, _ =>
            simp only [List.getElem?_cons_zero, Option.some.injEq] at ho
            subst ho
            refine ⟨wanted_none rfl, ?_⟩
            have c0 := (HXX.out.old hb).c0
            have c1 := (HXX.out.old hb).c1
            generalize hK : (fun (a' : Act) (w'' : World) => ∃ v : Value, _ ∧ _ ∧ _) = K
            go_simp
            rw [← hK]
            exact ⟨_, rfl, rfl, Below.refl _ _⟩
          | 1, ho, _ =>
            simp only [List.getElem?_cons_succ, List.getElem?_cons_zero, Option.some.injEq] at ho
            subst ho
            refine ⟨wanted_none rfl, ?_⟩
            have c0 := (HXQ.out.old hb).c0
            have c1 := (HXQ.out.old hb).c1
            generalize hK : (fun (a' : Act) (w'' : World) => ∃ v : Value, _ ∧ _ ∧ _) = K
            go_simp
            rw [← hK]
            exact ⟨_, rfl, rfl, Below.refl _ _⟩
          | 2, ho, _ =>
            simp only [List.getElem?_cons_succ, List.getElem?_cons_zero, Option.some.injEq] at ho
            subst ho
            refine ⟨wanted_none rfl, ?_⟩
            have e0 : Hid (vs 1 = .agg #[.slice Q.s0.a Q.s0.n Q.s0.c, .slice Q.s1.a Q.s1.n Q.s1.c]) := hd 1 (by kernel_rfl)
            generalize hK : (fun (a' : Act) (w'' : World) => ∃ v : Value, _ ∧ _ ∧ _) = K
            go_simp
            refine (calls_args (by rw [e0.out]) (toReady_any Q _ (HR.out.old hb) HSM.out)).mono ?_
            rintro e w2 ⟨A', rfl, O, D0, N0, B⟩
            rw [← hK]
            exact ⟨_, rfl, ⟨A', _, rfl, OwnY.mono O hb.size, D0, N0⟩, B⟩
          | 3, ho, _ =>
            simp only [List.getElem?_cons_succ, List.getElem?_cons_zero, Option.some.injEq] at ho
            subst ho
            refine ⟨wanted_none rfl, ?_⟩
            have e0 : Hid (vs 0 = .agg #[.slice X.s0.a X.s0.n X.s0.c, .slice X.s1.a X.s1.n X.s1.c]) := hd 0 (by kernel_rfl)
            obtain ⟨A', U, ea', O, D0, N0⟩ := hd 2 (by kernel_rfl)
            have ea := hid ea'
            clear ea'
            generalize hK : (fun (a' : Act) (w'' : World) => ∃ v : Value, _ ∧ _ ∧ _) = K
            go_simp
            refine (calls_args (by rw [e0.out, ea.out]) (eqReady_same X A' _ (HOX.out.reads.old hb) O.reads (by rw [HDX.out, D0]) HSMX.out)).mono ?_
            rintro e w2 ⟨rfl, B⟩
            rw [← hK]
            exact ⟨_, rfl, rfl, B⟩
          | 4, ho, _ =>
            simp only [List.getElem?_cons_succ, List.getElem?_cons_zero, Option.some.injEq] at ho
            subst ho
            refine ⟨wanted_none rfl, ?_⟩
            have e3 : vs 3 = .bool true := hd 3 (by kernel_rfl)
            generalize hK : (fun (a' : Act) (w'' : World) => ∃ v : Value, _ ∧ _ ∧ _) = K
            go_simp
            rw [← hK]
            exact ⟨_, by simp [upd, e3], rfl, Below.refl _ _⟩
          | n + 5, _, hin => exact absurd hin (by omega)
        case hend3 =>
          intro vs w9 hb hf
          have er4 : vs 4 = .bool false := hf 4 (by decide)
          have HOY := hid (HOY.out.old hb)
          have HVY := hid (HVY.out.old hb)
          have HOX := hid (HOX.out.old hb)
          have HXX := hid (HXX.out.old hb)
          have HOZ := hid (HOZ.out.old hb)
          have HVZ := hid (HVZ.out.old hb)
          have HB1 := hid (below_step HB1.out hb (Nat.le_refl _))
          have Sw9 : Hid (w8.heap.size ≤ w9.heap.size) := hid hb.size
          clear hb hf
          generalize vs 4 = ur4 at er4 ⊢
          subst er4
          simp only [List.drop_succ_cons, List.drop_nil]
          refine wpTail_nil ?_
          go_upto_region 13 with (fail)
          have HXG := hid (HXGw.out.old HB1.out)
          have HXQ := hid (HXQw.out.old HB1.out)
          have HXVe := hid (HXVew.out.old HB1.out)
          have HR := hid (HRw.out.old HB1.out)
          have cX0 := HXX.out.c0
          have cX1 := HXX.out.c1
          go_wp2_with fail
          clear cX0 cX1
          refine (markReady_any X _ _ 1 _ HOX.out HSMX.out (by decide) (by decide)).mono ?_
          rintro e w10 ⟨rfl, _, KM⟩
          have KM := hid KM
          have HOY2 := hid (HOY.out.keeps KM.out (fun b hb hb' hS => by have h1 := HOX.out.in_ hS; have q0 := Sw2.out; have q1 := Sw4.out; have q2 := Sw5.out; have q3 := Sw6.out; have q4 := Sw8.out; have q5 := Sw9.out; omega))
          have HVY2 := hid (HVY.out.keeps KM.out (fun hS => by have h1 := HOX.out.in_ hS; have h2 := HGY.out; have q0 := Sw2.out; have q1 := Sw4.out; have q2 := Sw5.out; have q3 := Sw6.out; have q4 := Sw8.out; have q5 := Sw9.out; omega))
          have HOZ2 := hid (HOZ.out.keeps KM.out (fun b hb hb' hS => by have h1 := HOX.out.in_ hS; have q0 := Sw2.out; have q1 := Sw4.out; have q2 := Sw5.out; have q3 := Sw6.out; have q4 := Sw8.out; have q5 := Sw9.out; omega))
          have HVZ2 := hid (HVZ.out.keeps KM.out (fun hS => by have h1 := HOX.out.in_ hS; have h2 := HGZ.out; have q0 := Sw2.out; have q1 := Sw4.out; have q2 := Sw5.out; have q3 := Sw6.out; have q4 := Sw8.out; have q5 := Sw9.out; omega))
          have HB1 := hid (HB1.out.trans (KM.out.below HB1.out.size (fun q hq hS => by have h1 := HOX.out.in_ hS; have q0 := Sw2.out; have q1 := Sw4.out; have q2 := Sw5.out; have q3 := Sw6.out; have q4 := Sw8.out; have q5 := Sw9.out; omega)))
          have Sw10 : Hid (w9.heap.size ≤ w10.heap.size) := hid KM.out.size
          clear KM HOX HXX
          clear HOY HVY
          have HOY := HOY2
          have HVY := HVY2
          clear HOY2 HVY2
          clear HOZ HVZ
          have HOZ := HOZ2
          have HVZ := HVZ2
          clear HOZ2 HVZ2
          have hkm : (0 : Int) ≤ 1 + (X.n : Int) := by omega
          generalize (1 : Int) + (X.n : Int) = km at hkm
          have dkm : decide (km < 0) = false := by simp; omega
          go_upto_region 14 with (fail)
          have HXG := hid (HXGw.out.old HB1.out)
          have HXQ := hid (HXQw.out.old HB1.out)
          have HXVe := hid (HXVew.out.old HB1.out)
          have HR := hid (HRw.out.old HB1.out)
          have cZ0 := HVZ.out.cell (j := 0) rfl
          have cZ1 := HVZ.out.cell (j := 1) rfl
          have cY0 := HVY.out.cell (j := 0) rfl
          have cY1 := HVY.out.cell (j := 1) rfl
          go_wp2_with fail
          clear cZ0 cZ1 cY0 cY1
          refine (eqReady_same Z Y _ HOZ.out.reads HOY.out.reads (by rw [HDZ.out, HDY.out]) HSMZ.out).mono ?_
          rintro e w11 ⟨rfl, B⟩
          have HOY := hid (HOY.out.old B)
          have HVY := hid (HVY.out.old B)
          have HOZ := hid (HOZ.out.old B)
          have HVZ := hid (HVZ.out.old B)
          have HB1 := hid (below_step HB1.out B (Nat.le_refl _))
          have Sw11 : Hid (w10.heap.size ≤ w11.heap.size) := hid B.size
          clear B
          go_upto_region 17 with (fail)
          have HXG := hid (HXGw.out.old HB1.out)
          have HXQ := hid (HXQw.out.old HB1.out)
          have HXVe := hid (HXVew.out.old HB1.out)
          have HR := hid (HRw.out.old HB1.out)
          have cZ0 := HVZ.out.cell (j := 0) rfl
          have cZ1 := HVZ.out.cell (j := 1) rfl
          go_wp2_with fail
          clear cZ0 cZ1
          refine (markReady_any Z _ _ 1 _ HOZ.out HSMZ.out (by decide) (by decide)).mono ?_
          rintro e w12 ⟨rfl, OM, KM⟩
          have KM := hid KM
          have HOM_ := hid OM
          clear OM
          have HOY2 := hid (HOY.out.keeps KM.out (fun b hb hb' hS => by have h1 := HOZ.out.in_ hS; have q0 := Sw2.out; have q1 := Sw4.out; have q2 := Sw5.out; have q3 := Sw6.out; have q4 := Sw8.out; have q5 := Sw9.out; have q6 := Sw10.out; have q7 := Sw11.out; omega))
          have HVY2 := hid (HVY.out.keeps KM.out (fun hS => by have h1 := HOZ.out.in_ hS; have h2 := HGY.out; have q0 := Sw2.out; have q1 := Sw4.out; have q2 := Sw5.out; have q3 := Sw6.out; have q4 := Sw8.out; have q5 := Sw9.out; have q6 := Sw10.out; have q7 := Sw11.out; omega))
          have HVZ2 := hid (HVZ.out.keeps KM.out HNZ.out)
          have HB1 := hid (HB1.out.trans (KM.out.below HB1.out.size (fun q hq hS => by have h1 := HOZ.out.in_ hS; have q0 := Sw2.out; have q1 := Sw4.out; have q2 := Sw5.out; have q3 := Sw6.out; have q4 := Sw8.out; have q5 := Sw9.out; have q6 := Sw10.out; have q7 := Sw11.out; omega)))
          have Sw12 : Hid (w11.heap.size ≤ w12.heap.size) := hid KM.out.size
          clear KM HOY HVY HVZ HOZ
          have HOY := HOY2
          have HVY := HVY2
          have HVZ := HVZ2
          have HOM := HOM_
          clear HOY2 HVY2 HVZ2 HOM_
          obtain ⟨qm, hqm⟩ : ∃ qm : Int, (1 : Int) + (Z.n : Int) = qm := ⟨_, rfl⟩
          have hq0 : (0 : Int) ≤ qm := by omega
          rw [hqm]
          have HQM := hid hqm
          clear hqm
          have dq : decide (qm < 0) = false := by simp; omega
          have dqn : (qm != qm) = false := by simp
          go_upto_region 19 with (fail)
          have HXG := hid (HXGw.out.old HB1.out)
          have HXQ := hid (HXQw.out.old HB1.out)
          have HXVe := hid (HXVew.out.old HB1.out)
          have HR := hid (HRw.out.old HB1.out)
          have cZ0 := HVZ.out.cell (j := 0) rfl
          have cZ1 := HVZ.out.cell (j := 1) rfl
          go_wp2_with fail
          clear cZ0 cZ1
          refine (heldReady_any (⟨Z.s0, Z.s1, marks 1 Z.s0.n, marks (1 + Z.s0.n) Z.s1.n⟩ : RdyE) 1 _ HOM.out.reads rfl rfl HZN.out (by decide) (by decide)).mono ?_
          rintro e w13 ⟨rfl, B⟩
          rw [show (1 : Int) + ((⟨Z.s0, Z.s1, marks 1 Z.s0.n, marks (1 + Z.s0.n) Z.s1.n⟩ : RdyE).n : Int) = qm from HQM.out]
          have HOY := hid (HOY.out.old B)
          have HVY := hid (HVY.out.old B)
          have HOM := hid (HOM.out.old B)
          have HVZ := hid (HVZ.out.old B)
          have HB1 := hid (below_step HB1.out B (Nat.le_refl _))
          have Sw13 : Hid (w12.heap.size ≤ w13.heap.size) := hid B.size
          clear B
          go_upto_region 24 with (fail)
          have HXG := hid (HXGw.out.old HB1.out)
          have HXQ := hid (HXQw.out.old HB1.out)
          have HXVe := hid (HXVew.out.old HB1.out)
          have HR := hid (HRw.out.old HB1.out)
          refine growR_of 8 (fr := ?fr4)
            (fun i v w' => match i with
                | 0 => v = .agg #[.int .i64 G.a, .int .i64 G.b, .int .i64 G.r, .int .i64 G.c]
                | 1 => v = .agg #[.int .i64 G.a, .int .i64 G.b, .int .i64 G.r, .int .i64 G.c]
                | 2 => v = .agg #[.slice Q.s0.a Q.s0.n Q.s0.c, .slice Q.s1.a Q.s1.n Q.s1.c]
                | 3 => ∃ (A' : RdyE) (U : Nat), v = .agg #[.slice A'.s0.a A'.s0.n A'.s0.c, .slice A'.s1.a A'.s1.n A'.s1.c] ∧ OwnY w' w13.heap.size U A' ∧ A'.d = Q.d ∧ A'.n = Q.n
                | 4 => v = .agg #[.int .i64 Ve.t, .int .i64 Ve.c.k, .int .i64 Ve.c.b, .int .i64 Ve.c.r, .int .i64 Ve.c.c]
                | 5 => v = .agg #[.int .i64 Ve.t, .int .i64 Ve.c.k, .int .i64 Ve.c.b, .int .i64 Ve.c.r, .int .i64 Ve.c.c]
                | 6 => ∃ Lx : RdyE, v = .agg #[.slice Lx.s0.a Lx.s0.n Lx.s0.c, .slice Lx.s1.a Lx.s1.n Lx.s1.c] ∧ OwnY w' w13.heap.size w'.heap.size Lx ∧ Lx.d = vd
                | _ => ∃ g : Nat, v = .pointer (some ⟨g, 0, none⟩) ∧ w13.heap.size ≤ g ∧ Blk w' g 37 [.slice none 0 0, .slice none 0 0]
              ) (by kernel_rfl) (by kernel_rfl) (by decide) (by kernel_rfl) ?hfr4 ⟨fun _ => undef, ?h04⟩ ?hF4 ?hstep4 ?hend4
          case hfr4 => intro vs; simp only [frOf, List.take_succ_cons, List.take_zero]; go_simp; exact rfl
          case h04 => rfl
          case hF4 =>
            intro i v w' w'' h hb
            match i, h with
            | 0, h => exact h
            | 1, h => exact h
            | 2, h => exact h
            | 3, h => obtain ⟨A', U, e, o, d, m⟩ := h; exact ⟨A', U, e, o.old hb, d, m⟩
            | 4, h => exact h
            | 5, h => exact h
            | 6, h => obtain ⟨Lx, e, o, d⟩ := h; exact ⟨Lx, e, OwnY.up (o.old hb) hb.size (Nat.le_refl _), d⟩
            | n + 7, h => obtain ⟨g, e, l, o⟩ := h; exact ⟨g, e, l, o.old hb⟩
          case hstep4 =>
            intro vs w' i o hin ho hb hd
            match i, ho, hin with
            | 0, ho, _ =>
              simp only [List.getElem?_cons_zero, Option.some.injEq] at ho
              subst ho
              refine ⟨wanted_none rfl, ?_⟩
              have c0 := (HXG.out.old hb).c0
              have c1 := (HXG.out.old hb).c1
              have c2 := (HXG.out.old hb).c2
              have c3 := (HXG.out.old hb).c3
              generalize hK : (fun (a' : Act) (w'' : World) => ∃ v : Value, _ ∧ _ ∧ _) = K
              go_simp
              rw [← hK]
              exact ⟨_, rfl, rfl, Below.refl _ _⟩
            | 1, ho, _ =>
              simp only [List.getElem?_cons_succ, List.getElem?_cons_zero, Option.some.injEq] at ho
              subst ho
              refine ⟨wanted_none rfl, ?_⟩
              have e0 : Hid (vs 0 = .agg #[.int .i64 G.a, .int .i64 G.b, .int .i64 G.r, .int .i64 G.c]) := hd 0 (by kernel_rfl)
              generalize hK : (fun (a' : Act) (w'' : World) => ∃ v : Value, _ ∧ _ ∧ _) = K
              go_simp
              refine (calls_args (by rw [e0.out]) (toGeometry_any G _)).mono ?_
              rintro e w2 ⟨rfl, B⟩
              rw [← hK]
              exact ⟨_, rfl, rfl, B⟩
            | 2, ho, _ =>
              simp only [List.getElem?_cons_succ, List.getElem?_cons_zero, Option.some.injEq] at ho
              subst ho
              refine ⟨wanted_none rfl, ?_⟩
              have c0 := (HXQ.out.old hb).c0
              have c1 := (HXQ.out.old hb).c1
              generalize hK : (fun (a' : Act) (w'' : World) => ∃ v : Value, _ ∧ _ ∧ _) = K
              go_simp
              rw [← hK]
              exact ⟨_, rfl, rfl, Below.refl _ _⟩
            | 3, ho, _ =>
              simp only [List.getElem?_cons_succ, List.getElem?_cons_zero, Option.some.injEq] at ho
              subst ho
              refine ⟨wanted_none rfl, ?_⟩
              have e0 : Hid (vs 2 = .agg #[.slice Q.s0.a Q.s0.n Q.s0.c, .slice Q.s1.a Q.s1.n Q.s1.c]) := hd 2 (by kernel_rfl)
              generalize hK : (fun (a' : Act) (w'' : World) => ∃ v : Value, _ ∧ _ ∧ _) = K
              go_simp
              refine (calls_args (by rw [e0.out]) (toReady_any Q _ (HR.out.old hb) HSM.out)).mono ?_
              rintro e w2 ⟨A', rfl, O, D0, N0, B⟩
              rw [← hK]
              exact ⟨_, rfl, ⟨A', _, rfl, OwnY.mono O hb.size, D0, N0⟩, B⟩
            | 4, ho, _ =>
              simp only [List.getElem?_cons_succ, List.getElem?_cons_zero, Option.some.injEq] at ho
              subst ho
              refine ⟨wanted_none rfl, ?_⟩
              have c0 := (HXVe.out.old hb).c0
              have c1 := (HXVe.out.old hb).c1
              have c2 := (HXVe.out.old hb).c2
              have c3 := (HXVe.out.old hb).c3
              have c4 := (HXVe.out.old hb).c4
              generalize hK : (fun (a' : Act) (w'' : World) => ∃ v : Value, _ ∧ _ ∧ _) = K
              go_simp
              rw [← hK]
              exact ⟨_, rfl, rfl, Below.refl _ _⟩
            | 5, ho, _ =>
              simp only [List.getElem?_cons_succ, List.getElem?_cons_zero, Option.some.injEq] at ho
              subst ho
              refine ⟨wanted_none rfl, ?_⟩
              have e0 : Hid (vs 4 = .agg #[.int .i64 Ve.t, .int .i64 Ve.c.k, .int .i64 Ve.c.b, .int .i64 Ve.c.r, .int .i64 Ve.c.c]) := hd 4 (by kernel_rfl)
              generalize hK : (fun (a' : Act) (w'' : World) => ∃ v : Value, _ ∧ _ ∧ _) = K
              go_simp
              refine (calls_args (by rw [e0.out]) (toEvent_any Ve _)).mono ?_
              rintro e w2 ⟨rfl, B⟩
              rw [← hK]
              exact ⟨_, rfl, rfl, B⟩
            | 6, ho, _ =>
              simp only [List.getElem?_cons_succ, List.getElem?_cons_zero, Option.some.injEq] at ho
              subst ho
              refine ⟨wanted_none rfl, ?_⟩
              have e1 : Hid (vs 1 = .agg #[.int .i64 G.a, .int .i64 G.b, .int .i64 G.r, .int .i64 G.c]) := hd 1 (by kernel_rfl)
              obtain ⟨A', U, ea', O', D0, N0⟩ := hd 3 (by kernel_rfl)
              have ea := hid ea'
              clear ea'
              have e5 : Hid (vs 5 = .agg #[.int .i64 Ve.t, .int .i64 Ve.c.k, .int .i64 Ve.c.b, .int .i64 Ve.c.r, .int .i64 Ve.c.c]) := hd 5 (by kernel_rfl)
              generalize hK : (fun (a' : Act) (w'' : World) => ∃ v : Value, _ ∧ _ ∧ _) = K
              go_simp
              refine (calls_args (by rw [e1.out, ea.out, e5.out]) (implReadyAfter_any G A' Ve _ (O'.reads) (RdyE.small_of D0 HSM.out))).mono ?_
              rintro e w2 ⟨Lx, rfl, O, D1, B⟩
              rw [← hK]
              exact ⟨_, rfl, ⟨Lx, rfl, OwnY.mono O hb.size, D1.trans (by rw [D0, HVD.out])⟩, B⟩
            | 7, ho, _ =>
              simp only [List.getElem?_cons_succ, List.getElem?_cons_zero, Option.some.injEq] at ho
              subst ho
              refine ⟨wanted_none rfl, ?_⟩
              generalize hK : (fun (a' : Act) (w'' : World) => ∃ v : Value, _ ∧ _ ∧ _) = K
              go_simp
              rw [← hK]
              exact ⟨_, rfl, ⟨_, rfl, hb.size, Blk.new _ _ _⟩, below_alloc _ _⟩
            | n + 8, _, hin => exact absurd hin (by omega)
          case hend4 =>
            intro vs w15 hb hf
            obtain ⟨V, er, O, D0⟩ := hf 6 (by decide)
            obtain ⟨gV, ep, hg1, N⟩ := hf 7 (by decide)
            have HSS := hid (ready_stored N O hg1)
            have HDV := hid D0
            have HHB0 := hid hb
            have HHG := hid hg1
            have HLT := hid N.lt
            have c0 := N.cell (j := 0) rfl
            have c1 := N.cell (j := 1) rfl
            have f0 := N.frozen 0
            have f1 := N.frozen 1
            clear O N hg1 D0 hf hb
            generalize vs 6 = ur at er ⊢
            subst er
            generalize vs 7 = up at ep ⊢
            subst ep
            simp only [List.drop_succ_cons, List.drop_zero]
            refine wpTail_plain rfl fun K hK => ?_
            go_simp
            refine hK _ _ (wpTail_nil ?_)
            clear c0 c1 f0 f1
            go_upto_region 25 with (fail)
            refine wp_world (fun w14 hw => ?_)
            have HSX : Hid (Blk w14 gV 37 [.slice V.s0.a V.s0.n V.s0.c, .slice V.s1.a V.s1.n V.s1.c] ∧ OwnY w14 w13.heap.size w14.heap.size V ∧ Below w13.heap.size w15 w14 ∧ ¬ blkY V gV) := by rw [hw.out]; exact HSS
            clear hw HSS
            have HVV_ := hid HSX.out.1
            have HOV_ := hid HSX.out.2.1
            have HNV := hid HSX.out.2.2.2
            have HHB := hid (HHB0.out.trans HSX.out.2.2.1)
            have hlV := HVV_.out.lt
            have HGV : Hid (w13.heap.size ≤ gV ∧ gV < w14.heap.size) := hid ⟨HHG.out, hlV⟩
            clear HSX HHG HLT hlV HHB0
            have HOY := hid (HOY.out.old HHB.out)
            have HVY := hid (HVY.out.old HHB.out)
            have HOM := hid (HOM.out.old HHB.out)
            have HVZ := hid (HVZ.out.old HHB.out)
            have HB1 := hid (below_step HB1.out HHB.out (Nat.le_refl _))
            have Sw14 : Hid (w13.heap.size ≤ w14.heap.size) := hid HHB.out.size
            clear HHB
            have HOV := HOV_
            have HVV := HVV_
            clear HOV_ HVV_
            go_upto_region 25 with (fail)
            have HXG := hid (HXGw.out.old HB1.out)
            have HXQ := hid (HXQw.out.old HB1.out)
            have HXVe := hid (HXVew.out.old HB1.out)
            have HR := hid (HRw.out.old HB1.out)
            have HSMV : Hid (V.small) := hid (readyAfter_small (HVD.out.trans HDV.out.symm) HSM.out)
            have cV0 := HVV.out.cell (j := 0) rfl
            have cV1 := HVV.out.cell (j := 1) rfl
            have cY0 := HVY.out.cell (j := 0) rfl
            have cY1 := HVY.out.cell (j := 1) rfl
            go_wp2_with fail
            clear cV0 cV1 cY0 cY1
            refine (eqReady_same V Y _ HOV.out.reads HOY.out.reads (by rw [HDV.out, HDY.out]) HSMV.out).mono ?_
            rintro e w16 ⟨rfl, B⟩
            have HOY := hid (HOY.out.old B)
            have HVY := hid (HVY.out.old B)
            have HOM := hid (HOM.out.old B)
            have HVZ := hid (HVZ.out.old B)
            have HOV := hid (HOV.out.old B)
            have HVV := hid (HVV.out.old B)
            have HB1 := hid (below_step HB1.out B (Nat.le_refl _))
            have Sw16 : Hid (w14.heap.size ≤ w16.heap.size) := hid B.size
            clear B
            go_upto_region 28 with (fail)
            have HXG := hid (HXGw.out.old HB1.out)
            have HXQ := hid (HXQw.out.old HB1.out)
            have HXVe := hid (HXVew.out.old HB1.out)
            have HR := hid (HRw.out.old HB1.out)
            have cZ0 := HVZ.out.cell (j := 0) rfl
            have cZ1 := HVZ.out.cell (j := 1) rfl
            go_wp2_with fail
            clear cZ0 cZ1
            refine (heldReady_any (⟨Z.s0, Z.s1, marks 1 Z.s0.n, marks (1 + Z.s0.n) Z.s1.n⟩ : RdyE) 1 _ HOM.out.reads rfl rfl HZN.out (by decide) (by decide)).mono ?_
            rintro e w17 ⟨rfl, B⟩
            rw [show (1 : Int) + ((⟨Z.s0, Z.s1, marks 1 Z.s0.n, marks (1 + Z.s0.n) Z.s1.n⟩ : RdyE).n : Int) = qm from HQM.out]
            have HOY := hid (HOY.out.old B)
            have HVY := hid (HVY.out.old B)
            have HOM := hid (HOM.out.old B)
            have HVZ := hid (HVZ.out.old B)
            have HOV := hid (HOV.out.old B)
            have HVV := hid (HVV.out.old B)
            have HB1 := hid (below_step HB1.out B (Nat.le_refl _))
            have Sw17 : Hid (w16.heap.size ≤ w17.heap.size) := hid B.size
            clear B
            go_wp2_with fail
            go_ret
            exact ⟨rfl, below_step HB.out HB1.out (Nat.le_refl _)⟩
  · have HA := hid hQ
    have HT := hid (szT_no (t := Q.n) (left := 1048576) (by omega))
    clear hQ
    go_enter Try.func4, Try.ntmps4
    go_wp2_with fail
    refine (szReady_any Q _ _ HA.out.max (by omega) (by omega)).mono ?_
    rintro e w1 ⟨rfl, B1⟩
    rw [HT.out]
    go_wp2_with fail
    go_ret
    exact ⟨rfl, below_step (below_alloc3 _ _ _ _) B1 (Nat.le_refl _)⟩

set_option maxRecDepth 100000 in
theorem lifted (os : Os) (started : os.Started) (H : Type) (enc : TypeId × Value → H) :
    ReturnsInHanded {} Try.checked os 4 .any (Rows.fnExactReadyAfterSpec.pre6 enc Try.prog Try.f4 Rows.fnExactReadyAfterRow.domain false) (Rows.fnExactReadyAfterSpec.post enc Try.prog Try.f4 false true false false) := by
  refine returnsInHanded_of_change (C := Try.checked) own started (by kernel_rfl) Try.func4
    (ChangeSpec.witness6 (enc := enc) (C := Try.checked) false ⟨#[], #[.agg #[.int .i64 0, .int .i64 0, .int .i64 0, .int .i64 0], .agg #[.slice none 0 0, .slice none 0 0], .agg #[.int .i64 0, .int .i64 0, .int .i64 0, .int .i64 0, .int .i64 0]], []⟩ 8 (by kernel_rfl) (by kernel_rfl) (by kernel_rfl) (by kernel_rfl)) ?_
  intro W base args ds gs before hval0 hW hcnd _
  have hval : ∀ (j : Nat) t v, Try.f4.params[j]? = some t → args[j]? = some v → Value.okWide Try.prog W .any base t v := hval0
  have hW' := hW
  obtain ⟨p, q, hA0, hV, rfl, hfz, hnd⟩ := hW
  have hA : DataW.TrodAll enc Try.prog W 0 (fun _ => true) true Try.f4.params.toList args.toList ds p := hA0
  rw [Try.params4] at hA hval
  obtain ⟨v0, vs0, d0, ds0, p0, q0, hargs, rfl, rfl, h0, r0⟩ := trodAll_cons hA
  obtain ⟨v1, vs1, d1, ds1, p1, q1, rfl, rfl, rfl, h1, r1⟩ := trodAll_cons r0
  obtain ⟨v2, vs2, d2, ds2, p2, q2, rfl, rfl, rfl, h2, r2⟩ := trodAll_cons r1
  obtain ⟨rfl, rfl, rfl⟩ := trodAll_nil r2
  obtain rfl : args = #[v0, v1, v2] := by cases args; simp_all
  obtain ⟨rfl, rfl⟩ := trodVars_none hV
  have k0 := h0
  have lt0 : ∀ x ∈ p0, x.block < W.heap.size := by obtain ⟨m, hm⟩ := k0; exact DataW.trod_lt m _ _ _ hm
  obtain ⟨G, rfl⟩ := open_geo (hval 0 48 v0 rfl rfl) h0
  have k1 := h1
  have lt1 : ∀ x ∈ p1, x.block < W.heap.size := by obtain ⟨m, hm⟩ := k1; exact DataW.trod_lt m _ _ _ hm
  obtain ⟨Q, rfl, hArgQ⟩ := open_ready (hval 1 49 v1 rfl rfl) h1
  have k2 := h2
  have lt2 : ∀ x ∈ p2, x.block < W.heap.size := by obtain ⟨m, hm⟩ := k2; exact DataW.trod_lt m _ _ _ hm
  obtain ⟨Ve, rfl⟩ := open_event (hval 2 52 v2 rfl rfl) h2
  clear hA0 hval0
  refine (walk W G Q hArgQ Ve).mono fun e W' ⟨he, bel⟩ => ?_
  subst he
  exact ⟨_, rfl, _, _, _, [], _, [], hW', trodAll_mk1 (shut_bool Try.underlying4 _), (trodAll_cons_mk (Below.trod laidOut (by kernel_rfl) (of_decide_eq_true (by kernel_rfl)) k0 bel lt0) (trodAll_cons_mk (Below.trod laidOut (by kernel_rfl) (of_decide_eq_true (by kernel_rfl)) k1 bel lt1) (trodAll_cons_mk (Below.trod laidOut (by kernel_rfl) (of_decide_eq_true (by kernel_rfl)) k2 bel lt2) trodAll_mk0))), rfl, bel.frame _, fun h => by cases h⟩

theorem own_facts : joinedFacts Try.prog 4 Try.f4 Rows.fnExactReadyAfterSpec Rows.fnExactReadyAfterRow = true :=
  facts_of 4 Try.f4 Rows.fnExactReadyAfterSpec Rows.fnExactReadyAfterRow (by as_aux_lemma => kernel_rfl) (by as_aux_lemma => kernel_rfl) (by as_aux_lemma => kernel_rfl) rfl rfl
    (by as_aux_lemma => kernel_rfl) (by as_aux_lemma => kernel_rfl) (by as_aux_lemma => kernel_rfl) (by as_aux_lemma => kernel_rfl)
    (by as_aux_lemma => kernel_rfl) (by as_aux_lemma => kernel_rfl) (by as_aux_lemma => kernel_rfl) (by as_aux_lemma => kernel_rfl) (by as_aux_lemma => kernel_rfl)
    (by as_aux_lemma => kernel_rfl) (by as_aux_lemma => kernel_rfl) (by as_aux_lemma => kernel_rfl) (by as_aux_lemma => kernel_rfl)
    rfl rfl rfl rfl (by as_aux_lemma => kernel_rfl) (by as_aux_lemma => kernel_rfl) (by as_aux_lemma => kernel_rfl) (by as_aux_lemma => kernel_rfl)
theorem over : Rows.fnExactReadyAfterRow.holds Try.pinned (OpenSpec.ofChange Rows.fnExactReadyAfterSpec) :=
  OpenClaim.holds_of_wide 4 Try.f4 rfl rfl rfl rfl rfl rfl rfl ⟨rfl, rfl, rfl, rfl, rfl⟩ rfl rfl rfl rfl rfl (by as_aux_lemma => kernel_rfl) Try.func4 own_facts
    (of_decide_eq_true (by as_aux_lemma => kernel_rfl)) (by unfold Func.isWrapper; first | (rw [if_pos (by decide +kernel)]; kernel_rfl) | (rw [if_neg (by decide +kernel)]; exact ⟨rfl, rfl⟩))
    (fun os started H enc _ => lifted os started H enc)

theorem proved : Rows.FnExactReadyAfterSaid := over
#print axioms proved
end Go.Proofs.Ytggjheapjklhgaa.fnExactReadyAfter
