/- The law 'FnExactReadyOf': for every input the program's function and the reference's agree, so the call returns true and leaves its arguments as they were; no condition. -/
import Derived.Test.YtggjheapjklhgaaRows
import Derived.Test.YtggjheapjklhgaaHead
import Derived.Test.YtggjheapjklhgaaLwR
import Derived.Test.YtggjheapjklhgaaRyO
import Derived.Test.YtggjheapjklhgaaRdyW
import Derived.Test.YtggjheapjklhgaaEvtF
import Derived.Test.YtggjheapjklhgaaAdrW
import Derived.Test.YtggjheapjklhgaaEvtW
import Derived.Test.YtggjheapjklhgaaOpenY
import Derived.Test.YtggjheapjklhgaaOpenE
import Derived.Test.YtggjheapjklhgaaOpenT
import Derived.WalkKit
import Derived.ProofKit
import Derived.OpenShut
import Derived.ShutString
import Derived.ChangeOld
import Derived.Below
namespace Go.Proofs.Ytggjheapjklhgaa.fnExactReadyOf
open Go.ChangeShapes Go.WideShapes Go.ChangeAt Go.RowKit
set_option linter.unusedVariables false

theorem own : ownKnob Try.prog.godebug = none := by kernel_rfl
theorem laidOut : laidOutB Try.prog = true := by kernel_rfl


set_option maxRecDepth 100000 in
theorem walk (w : World) (G : Geo) (E : EvsE) (hE : ArgEvs w E) :
    Calls Try.prog 7 #[.agg #[.int .i64 G.a, .int .i64 G.b, .int .i64 G.r, .int .i64 G.c], .slice E.a E.n E.c] w fun e w' => e = .returned (.bool true) ∧ Below w.heap.size w w' := by
  obtain ⟨vd, hvd⟩ : ∃ d : RdyD, readyOf G E.d = d := ⟨_, rfl⟩
  have HVD := hid hvd
  clear hvd
  by_cases hsz : (E.n : Int) ≤ 1048576
  · have HA := hid hE
    have hn : E.n ≤ 1048576 := by omega
    have HNM := hid hn
    have HSM := hid (show E.es.length ≤ 1048576 by rw [← HA.out.reads.len]; exact hn)
    have HT := hid (szT_yes hsz)
    have h0 : (0 : Int) ≤ 1048576 - E.n := by omega
    generalize hleft : (1048576 : Int) - E.n = left at h0 HT
    have hdl : decide (left < 0) = false := by simp; omega
    clear hE hleft hn
    go_enter Try.func7, Try.ntmps7
    go_wp2_with fail
    refine (szEventS_any E _ _ HA.out.max (by omega) (by omega)).mono ?_
    rintro e w1 ⟨rfl, B1⟩
    rw [HT.out]
    have HB := hid (below_step (below_alloc _ _) B1 (Nat.le_refl _))
    have HXGw := hid ((BoxG.new_ w 48 G (show _ = w.heap.size by simp)).old B1)
    have HRw := hid (HA.out.reads.old HB.out)
    have hB1 := hid (Below.refl w1.heap.size w1)
    have HB1 := hB1
    clear hB1 B1
    go_upto_region 5 with (fail)
    have HXG := hid (HXGw.out.old HB1.out)
    have HR := hid (HRw.out.old HB1.out)
    have cG0 := HXG.out.c0
    have cG1 := HXG.out.c1
    have cG2 := HXG.out.c2
    have cG3 := HXG.out.c3
    go_wp2_with fail
    clear cG0 cG1 cG2 cG3
    refine (toGeometry_any G _).mono ?_
    rintro e w2 ⟨rfl, B⟩
    have HB1 := hid (below_step HB1.out B (Nat.le_refl _))
    have Sw2 : Hid (w1.heap.size ≤ w2.heap.size) := hid B.size
    clear B
    have HXG := hid (HXGw.out.old HB1.out)
    have HR := hid (HRw.out.old HB1.out)
    go_wp2_with fail
    refine (toEventSE_any E _ (HR.out) HSM.out).mono ?_
    rintro e w3 ⟨A', rfl, O, D0, N0, B⟩
    have HB1 := hid (below_step HB1.out B (Nat.le_refl _))
    have Sw3 : Hid (w2.heap.size ≤ w3.heap.size) := hid B.size
    clear B
    have HOn := hid O
    have HDn := hid D0
    have HNn := hid N0
    clear O D0 N0
    go_wp2_with fail
    refine (specReadyOf_any G A' _ (HOn.out.reads) (by rw [HNn.out]; exact HNM.out)).mono ?_
    rintro e w4 ⟨Y, rfl, O, D1, B⟩
    have HOY_ := hid O
    have HDY := hid (D1.trans (by rw [HDn.out, HVD.out]))
    clear O D1
    have HB1 := hid (below_step HB1.out B (Nat.le_refl _))
    have Sw4 : Hid (w3.heap.size ≤ w4.heap.size) := hid B.size
    clear B
    go_upto_region 6 with (fail)
    refine wp_world (fun w5 hw => ?_)
    have HVY_ : Hid (Blk w5 w4.heap.size 37 [.slice Y.s0.a Y.s0.n Y.s0.c, .slice Y.s1.a Y.s1.n Y.s1.c]) := by rw [hw.out]; exact hid (Blk.new _ _ _)
    have B : Below w4.heap.size w4 w5 := by rw [hw.out]; exact below_alloc _ _
    clear hw
    have HNY : Hid (¬ blkY Y w4.heap.size) := hid (fun hS => by have := OwnY.in_ HOY_.out hS; omega)
    have HOY := hid (HOY_.out.old B)
    clear HOY_
    have hlY := HVY_.out.lt
    have HVY := HVY_
    clear HVY_
    obtain ⟨gY, hgY⟩ : ∃ g, w4.heap.size = g := ⟨_, rfl⟩
    rw [hgY] at HVY HNY
    have HGY : Hid (w3.heap.size ≤ gY ∧ gY < w5.heap.size) := hid (by have q0 := Sw2.out; have q1 := Sw3.out; have q2 := Sw4.out; omega)
    have HB1 := hid (below_step HB1.out B (Nat.le_refl _))
    have Sw5 : Hid (w4.heap.size ≤ w5.heap.size) := hid B.size
    clear B hlY
    rw [hgY]
    have HQY := hid hgY
    clear hgY
    go_upto_region 6 with (fail)
    have HXG := hid (HXGw.out.old HB1.out)
    have HR := hid (HRw.out.old HB1.out)
    go_wp2_with fail
    refine (toEventSE_any E _ (HR.out) HSM.out).mono ?_
    rintro e w6 ⟨X, rfl, O, D0, N0, B⟩
    have HOY := hid (HOY.out.old B)
    have HVY := hid (HVY.out.old B)
    have HB1 := hid (below_step HB1.out B (Nat.le_refl _))
    have Sw6 : Hid (w5.heap.size ≤ w6.heap.size) := hid B.size
    clear B
    have HOX := hid O
    have HDX := hid D0
    have HNX := hid N0
    clear O D0 N0
    have HSMX := hid (show X.es.length ≤ 1048576 by rw [← HOX.out.reads.len, HNX.out]; exact HNM.out)
    go_upto_region 7 with (fail)
    go_upto_region 7 with (fail)
    have HXG := hid (HXGw.out.old HB1.out)
    have HR := hid (HRw.out.old HB1.out)
    have cG0 := HXG.out.c0
    have cG1 := HXG.out.c1
    have cG2 := HXG.out.c2
    have cG3 := HXG.out.c3
    go_wp2_with fail
    clear cG0 cG1 cG2 cG3
    refine (toGeometry_any G _).mono ?_
    rintro e w7 ⟨rfl, B⟩
    have HOY := hid (HOY.out.old B)
    have HVY := hid (HVY.out.old B)
    have HOX := hid (HOX.out.old B)
    have HB1 := hid (below_step HB1.out B (Nat.le_refl _))
    have Sw7 : Hid (w6.heap.size ≤ w7.heap.size) := hid B.size
    clear B
    have HXG := hid (HXGw.out.old HB1.out)
    have HR := hid (HRw.out.old HB1.out)
    go_wp2_with fail
    refine (implReadyOf_any G X _ (HOX.out.reads) (by rw [HNX.out]; exact HNM.out)).mono ?_
    rintro e w8 ⟨Z, rfl, O, D1, B⟩
    have HOZ_ := hid O
    have HDZ := hid (D1.trans (by rw [HDX.out, HVD.out]))
    clear O D1
    have HOY := hid (HOY.out.old B)
    have HVY := hid (HVY.out.old B)
    have HOX := hid (HOX.out.old B)
    have HB1 := hid (below_step HB1.out B (Nat.le_refl _))
    have Sw8 : Hid (w7.heap.size ≤ w8.heap.size) := hid B.size
    clear B
    go_upto_region 8 with (fail)
    refine wp_world (fun w9 hw => ?_)
    have HVZ_ : Hid (Blk w9 w8.heap.size 37 [.slice Z.s0.a Z.s0.n Z.s0.c, .slice Z.s1.a Z.s1.n Z.s1.c]) := by rw [hw.out]; exact hid (Blk.new _ _ _)
    have B : Below w8.heap.size w8 w9 := by rw [hw.out]; exact below_alloc _ _
    clear hw
    have HNZ : Hid (¬ blkY Z w8.heap.size) := hid (fun hS => by have := OwnY.in_ HOZ_.out hS; omega)
    have HOZ := hid (HOZ_.out.old B)
    clear HOZ_
    have hlZ := HVZ_.out.lt
    have HVZ := HVZ_
    clear HVZ_
    obtain ⟨gZ, hgZ⟩ : ∃ g, w8.heap.size = g := ⟨_, rfl⟩
    rw [hgZ] at HVZ HNZ
    have HGZ : Hid (w7.heap.size ≤ gZ ∧ gZ < w9.heap.size) := hid (by have q0 := Sw2.out; have q1 := Sw3.out; have q2 := Sw4.out; have q3 := Sw5.out; have q4 := HQY.out; have q5 := Sw6.out; have q6 := Sw7.out; have q7 := Sw8.out; omega)
    have HOY := hid (HOY.out.old B)
    have HVY := hid (HVY.out.old B)
    have HOX := hid (HOX.out.old B)
    have HB1 := hid (below_step HB1.out B (Nat.le_refl _))
    have Sw9 : Hid (w8.heap.size ≤ w9.heap.size) := hid B.size
    clear B hlZ
    rw [hgZ]
    have HQZ := hid hgZ
    clear hgZ
    have HSMZ : Hid (Z.small) := hid (readyOf_small (HVD.out.trans HDZ.out.symm))
    have HZN : Hid (Z.s0.n ≤ 1048576 ∧ Z.s1.n ≤ 1048576) := hid ⟨by rw [HOZ.out.reads.l0]; exact HSMZ.out.1, by rw [HOZ.out.reads.l1]; exact HSMZ.out.2⟩
    go_upto_region 8 with (fail)
    have HXG := hid (HXGw.out.old HB1.out)
    have HR := hid (HRw.out.old HB1.out)
    have cZ0 := HVZ.out.cell (j := 0) rfl
    have cZ1 := HVZ.out.cell (j := 1) rfl
    have cY0 := HVY.out.cell (j := 0) rfl
    have cY1 := HVY.out.cell (j := 1) rfl
    go_wp2_with fail
    clear cZ0 cZ1 cY0 cY1
    refine (eqReady_same Z Y _ HOZ.out.reads HOY.out.reads (by rw [HDZ.out, HDY.out]) HSMZ.out).mono ?_
    rintro e w10 ⟨rfl, B⟩
    have HOY := hid (HOY.out.old B)
    have HVY := hid (HVY.out.old B)
    have HOX := hid (HOX.out.old B)
    have HOZ := hid (HOZ.out.old B)
    have HVZ := hid (HVZ.out.old B)
    have HB1 := hid (below_step HB1.out B (Nat.le_refl _))
    have Sw10 : Hid (w9.heap.size ≤ w10.heap.size) := hid B.size
    clear B
    go_upto_region 10 with (fail)
    have HXG := hid (HXGw.out.old HB1.out)
    have HR := hid (HRw.out.old HB1.out)
    go_wp2_with fail
    refine (toEventSE_any E _ (HR.out) HSM.out).mono ?_
    rintro e w11 ⟨A', rfl, O, D0, N0, B⟩
    have HOY := hid (HOY.out.old B)
    have HVY := hid (HVY.out.old B)
    have HOX := hid (HOX.out.old B)
    have HOZ := hid (HOZ.out.old B)
    have HVZ := hid (HVZ.out.old B)
    have HB1 := hid (below_step HB1.out B (Nat.le_refl _))
    have Sw11 : Hid (w10.heap.size ≤ w11.heap.size) := hid B.size
    clear B
    have HOn := hid O
    have HDn := hid D0
    clear O D0 N0
    go_wp2_with fail
    refine (eqEventSE_same X A' _ HOX.out.reads HOn.out.reads (by rw [HDX.out, HDn.out]) HSMX.out).mono ?_
    rintro e w12 ⟨rfl, B⟩
    have HOY := hid (HOY.out.old B)
    have HVY := hid (HVY.out.old B)
    have HOX := hid (HOX.out.old B)
    have HOZ := hid (HOZ.out.old B)
    have HVZ := hid (HVZ.out.old B)
    have HB1 := hid (below_step HB1.out B (Nat.le_refl _))
    have Sw12 : Hid (w11.heap.size ≤ w12.heap.size) := hid B.size
    clear B
    go_upto_region 13 with (fail)
    have HXG := hid (HXGw.out.old HB1.out)
    have HR := hid (HRw.out.old HB1.out)
    go_wp2_with fail
    refine (markEventS_any X _ _ 1 _ HOX.out HSMX.out (by decide) (by decide)).mono ?_
    rintro e w13 ⟨rfl, _, KM⟩
    have KM := hid KM
    have HOY2 := hid (HOY.out.keeps KM.out (fun b hb hb' hS => by have h1 := HOX.out.in_ hS; have q0 := Sw2.out; have q1 := Sw3.out; have q2 := Sw4.out; have q3 := Sw5.out; have q4 := HQY.out; have q5 := Sw6.out; have q6 := Sw7.out; have q7 := Sw8.out; have q8 := Sw9.out; have q9 := HQZ.out; have q10 := Sw10.out; have q11 := Sw11.out; have q12 := Sw12.out; omega))
    have HVY2 := hid (HVY.out.keeps KM.out (fun hS => by have h1 := HOX.out.in_ hS; have h2 := HGY.out; have q0 := Sw2.out; have q1 := Sw3.out; have q2 := Sw4.out; have q3 := Sw5.out; have q4 := HQY.out; have q5 := Sw6.out; have q6 := Sw7.out; have q7 := Sw8.out; have q8 := Sw9.out; have q9 := HQZ.out; have q10 := Sw10.out; have q11 := Sw11.out; have q12 := Sw12.out; omega))
    have HOZ2 := hid (HOZ.out.keeps KM.out (fun b hb hb' hS => by have h1 := HOX.out.in_ hS; have q0 := Sw2.out; have q1 := Sw3.out; have q2 := Sw4.out; have q3 := Sw5.out; have q4 := HQY.out; have q5 := Sw6.out; have q6 := Sw7.out; have q7 := Sw8.out; have q8 := Sw9.out; have q9 := HQZ.out; have q10 := Sw10.out; have q11 := Sw11.out; have q12 := Sw12.out; omega))
    have HVZ2 := hid (HVZ.out.keeps KM.out (fun hS => by have h1 := HOX.out.in_ hS; have h2 := HGZ.out; have q0 := Sw2.out; have q1 := Sw3.out; have q2 := Sw4.out; have q3 := Sw5.out; have q4 := HQY.out; have q5 := Sw6.out; have q6 := Sw7.out; have q7 := Sw8.out; have q8 := Sw9.out; have q9 := HQZ.out; have q10 := Sw10.out; have q11 := Sw11.out; have q12 := Sw12.out; omega))
    have HB1 := hid (HB1.out.trans (KM.out.below HB1.out.size (fun q hq hS => by have h1 := HOX.out.in_ hS; have q0 := Sw2.out; have q1 := Sw3.out; have q2 := Sw4.out; have q3 := Sw5.out; have q4 := HQY.out; have q5 := Sw6.out; have q6 := Sw7.out; have q7 := Sw8.out; have q8 := Sw9.out; have q9 := HQZ.out; have q10 := Sw10.out; have q11 := Sw11.out; have q12 := Sw12.out; omega)))
    have Sw13 : Hid (w12.heap.size ≤ w13.heap.size) := hid KM.out.size
    clear KM HOX
    clear HOY HVY
    have HOY := HOY2
    have HVY := HVY2
    clear HOY2 HVY2
    clear HOZ HVZ
    have HOZ := HOZ2
    have HVZ := HVZ2
    clear HOZ2 HVZ2
    have hkm : (0 : Int) ≤ 1 + 5 * (X.n : Int) := by omega
    generalize (1 : Int) + 5 * (X.n : Int) = km at hkm
    have dkm : decide (km < 0) = false := by simp; omega
    go_upto_region 14 with (fail)
    have HXG := hid (HXGw.out.old HB1.out)
    have HR := hid (HRw.out.old HB1.out)
    have cZ0 := HVZ.out.cell (j := 0) rfl
    have cZ1 := HVZ.out.cell (j := 1) rfl
    have cY0 := HVY.out.cell (j := 0) rfl
    have cY1 := HVY.out.cell (j := 1) rfl
    go_wp2_with fail
    clear cZ0 cZ1 cY0 cY1
    refine (eqReady_same Z Y _ HOZ.out.reads HOY.out.reads (by rw [HDZ.out, HDY.out]) HSMZ.out).mono ?_
    rintro e w14 ⟨rfl, B⟩
    have HOY := hid (HOY.out.old B)
    have HVY := hid (HVY.out.old B)
    have HOZ := hid (HOZ.out.old B)
    have HVZ := hid (HVZ.out.old B)
    have HB1 := hid (below_step HB1.out B (Nat.le_refl _))
    have Sw14 : Hid (w13.heap.size ≤ w14.heap.size) := hid B.size
    clear B
    go_upto_region 17 with (fail)
    have HXG := hid (HXGw.out.old HB1.out)
    have HR := hid (HRw.out.old HB1.out)
    have cZ0 := HVZ.out.cell (j := 0) rfl
    have cZ1 := HVZ.out.cell (j := 1) rfl
    go_wp2_with fail
    clear cZ0 cZ1
    refine (markReady_any Z _ _ 1 _ HOZ.out HSMZ.out (by decide) (by decide)).mono ?_
    rintro e w15 ⟨rfl, OM, KM⟩
    have KM := hid KM
    have HOM_ := hid OM
    clear OM
    have HOY2 := hid (HOY.out.keeps KM.out (fun b hb hb' hS => by have h1 := HOZ.out.in_ hS; have q0 := Sw2.out; have q1 := Sw3.out; have q2 := Sw4.out; have q3 := Sw5.out; have q4 := HQY.out; have q5 := Sw6.out; have q6 := Sw7.out; have q7 := Sw8.out; have q8 := Sw9.out; have q9 := HQZ.out; have q10 := Sw10.out; have q11 := Sw11.out; have q12 := Sw12.out; have q13 := Sw13.out; have q14 := Sw14.out; omega))
    have HVY2 := hid (HVY.out.keeps KM.out (fun hS => by have h1 := HOZ.out.in_ hS; have h2 := HGY.out; have q0 := Sw2.out; have q1 := Sw3.out; have q2 := Sw4.out; have q3 := Sw5.out; have q4 := HQY.out; have q5 := Sw6.out; have q6 := Sw7.out; have q7 := Sw8.out; have q8 := Sw9.out; have q9 := HQZ.out; have q10 := Sw10.out; have q11 := Sw11.out; have q12 := Sw12.out; have q13 := Sw13.out; have q14 := Sw14.out; omega))
    have HVZ2 := hid (HVZ.out.keeps KM.out HNZ.out)
    have HB1 := hid (HB1.out.trans (KM.out.below HB1.out.size (fun q hq hS => by have h1 := HOZ.out.in_ hS; have q0 := Sw2.out; have q1 := Sw3.out; have q2 := Sw4.out; have q3 := Sw5.out; have q4 := HQY.out; have q5 := Sw6.out; have q6 := Sw7.out; have q7 := Sw8.out; have q8 := Sw9.out; have q9 := HQZ.out; have q10 := Sw10.out; have q11 := Sw11.out; have q12 := Sw12.out; have q13 := Sw13.out; have q14 := Sw14.out; omega)))
    have Sw15 : Hid (w14.heap.size ≤ w15.heap.size) := hid KM.out.size
    clear KM HOY HVY HVZ HOZ
    have HOY := HOY2
    have HVY := HVY2
    have HVZ := HVZ2
    have HOM := HOM_
    clear HOY2 HVY2 HVZ2 HOM_
    obtain ⟨qm, hqm⟩ : ∃ qm : Int, (1 : Int) + (Z.n : Int) = qm := ⟨_, rfl⟩
    have hq0 : (0 : Int) ≤ qm := by omega
    rw [hqm]
    have HQM := hid hqm
    clear hqm
    have dq : decide (qm < 0) = false := by simp; omega
    have dqn : (qm != qm) = false := by simp
    go_upto_region 19 with (fail)
    have HXG := hid (HXGw.out.old HB1.out)
    have HR := hid (HRw.out.old HB1.out)
    have cZ0 := HVZ.out.cell (j := 0) rfl
    have cZ1 := HVZ.out.cell (j := 1) rfl
    go_wp2_with fail
    clear cZ0 cZ1
    refine (heldReady_any (⟨Z.s0, Z.s1, marks 1 Z.s0.n, marks (1 + Z.s0.n) Z.s1.n⟩ : RdyE) 1 _ HOM.out.reads rfl rfl HZN.out (by decide) (by decide)).mono ?_
    rintro e w16 ⟨rfl, B⟩
    rw [show (1 : Int) + ((⟨Z.s0, Z.s1, marks 1 Z.s0.n, marks (1 + Z.s0.n) Z.s1.n⟩ : RdyE).n : Int) = qm from HQM.out]
    have HOY := hid (HOY.out.old B)
    have HVY := hid (HVY.out.old B)
    have HOM := hid (HOM.out.old B)
    have HVZ := hid (HVZ.out.old B)
    have HB1 := hid (below_step HB1.out B (Nat.le_refl _))
    have Sw16 : Hid (w15.heap.size ≤ w16.heap.size) := hid B.size
    clear B
    go_upto_region 24 with (fail)
    have HXG := hid (HXGw.out.old HB1.out)
    have HR := hid (HRw.out.old HB1.out)
    have cG0 := HXG.out.c0
    have cG1 := HXG.out.c1
    have cG2 := HXG.out.c2
    have cG3 := HXG.out.c3
    go_wp2_with fail
    clear cG0 cG1 cG2 cG3
    refine (toGeometry_any G _).mono ?_
    rintro e w17 ⟨rfl, B⟩
    have HOY := hid (HOY.out.old B)
    have HVY := hid (HVY.out.old B)
    have HOM := hid (HOM.out.old B)
    have HVZ := hid (HVZ.out.old B)
    have HB1 := hid (below_step HB1.out B (Nat.le_refl _))
    have Sw17 : Hid (w16.heap.size ≤ w17.heap.size) := hid B.size
    clear B
    have HXG := hid (HXGw.out.old HB1.out)
    have HR := hid (HRw.out.old HB1.out)
    go_wp2_with fail
    refine (toEventSE_any E _ (HR.out) HSM.out).mono ?_
    rintro e w18 ⟨A', rfl, O, D0, N0, B⟩
    have HOY := hid (HOY.out.old B)
    have HVY := hid (HVY.out.old B)
    have HOM := hid (HOM.out.old B)
    have HVZ := hid (HVZ.out.old B)
    have HB1 := hid (below_step HB1.out B (Nat.le_refl _))
    have Sw18 : Hid (w17.heap.size ≤ w18.heap.size) := hid B.size
    clear B
    have HOn := hid O
    have HDn := hid D0
    have HNn := hid N0
    clear O D0 N0
    go_wp2_with fail
    refine (implReadyOf_any G A' _ (HOn.out.reads) (by rw [HNn.out]; exact HNM.out)).mono ?_
    rintro e w19 ⟨V, rfl, O, D1, B⟩
    have HOV_ := hid O
    have HDV := hid (D1.trans (by rw [HDn.out, HVD.out]))
    clear O D1
    have HOY := hid (HOY.out.old B)
    have HVY := hid (HVY.out.old B)
    have HOM := hid (HOM.out.old B)
    have HVZ := hid (HVZ.out.old B)
    have HB1 := hid (below_step HB1.out B (Nat.le_refl _))
    have Sw19 : Hid (w18.heap.size ≤ w19.heap.size) := hid B.size
    clear B
    go_upto_region 25 with (fail)
    refine wp_world (fun w20 hw => ?_)
    have HVV_ : Hid (Blk w20 w19.heap.size 37 [.slice V.s0.a V.s0.n V.s0.c, .slice V.s1.a V.s1.n V.s1.c]) := by rw [hw.out]; exact hid (Blk.new _ _ _)
    have B : Below w19.heap.size w19 w20 := by rw [hw.out]; exact below_alloc _ _
    clear hw
    have HNV : Hid (¬ blkY V w19.heap.size) := hid (fun hS => by have := OwnY.in_ HOV_.out hS; omega)
    have HOV := hid (HOV_.out.old B)
    clear HOV_
    have hlV := HVV_.out.lt
    have HVV := HVV_
    clear HVV_
    obtain ⟨gV, hgV⟩ : ∃ g, w19.heap.size = g := ⟨_, rfl⟩
    rw [hgV] at HVV HNV
    have HGV : Hid (w18.heap.size ≤ gV ∧ gV < w20.heap.size) := hid (by have q0 := Sw2.out; have q1 := Sw3.out; have q2 := Sw4.out; have q3 := Sw5.out; have q4 := HQY.out; have q5 := Sw6.out; have q6 := Sw7.out; have q7 := Sw8.out; have q8 := Sw9.out; have q9 := HQZ.out; have q10 := Sw10.out; have q11 := Sw11.out; have q12 := Sw12.out; have q13 := Sw13.out; have q14 := Sw14.out; have q15 := Sw15.out; have q16 := Sw16.out; have q17 := Sw17.out; have q18 := Sw18.out; have q19 := Sw19.out; omega)
    have HOY := hid (HOY.out.old B)
    have HVY := hid (HVY.out.old B)
    have HOM := hid (HOM.out.old B)
    have HVZ := hid (HVZ.out.old B)
    have HB1 := hid (below_step HB1.out B (Nat.le_refl _))
    have Sw20 : Hid (w19.heap.size ≤ w20.heap.size) := hid B.size
    clear B hlV
    rw [hgV]
    have HQV := hid hgV
    clear hgV
    go_upto_region 25 with (fail)
    have HXG := hid (HXGw.out.old HB1.out)
    have HR := hid (HRw.out.old HB1.out)
    have HSMV : Hid (V.small) := hid (readyOf_small (HVD.out.trans HDV.out.symm))
    have cV0 := HVV.out.cell (j := 0) rfl
    have cV1 := HVV.out.cell (j := 1) rfl
    have cY0 := HVY.out.cell (j := 0) rfl
    have cY1 := HVY.out.cell (j := 1) rfl
    go_wp2_with fail
    clear cV0 cV1 cY0 cY1
    refine (eqReady_same V Y _ HOV.out.reads HOY.out.reads (by rw [HDV.out, HDY.out]) HSMV.out).mono ?_
    rintro e w21 ⟨rfl, B⟩
    have HOY := hid (HOY.out.old B)
    have HVY := hid (HVY.out.old B)
    have HOM := hid (HOM.out.old B)
    have HVZ := hid (HVZ.out.old B)
    have HOV := hid (HOV.out.old B)
    have HVV := hid (HVV.out.old B)
    have HB1 := hid (below_step HB1.out B (Nat.le_refl _))
    have Sw21 : Hid (w20.heap.size ≤ w21.heap.size) := hid B.size
    clear B
    go_upto_region 28 with (fail)
    have HXG := hid (HXGw.out.old HB1.out)
    have HR := hid (HRw.out.old HB1.out)
    have cZ0 := HVZ.out.cell (j := 0) rfl
    have cZ1 := HVZ.out.cell (j := 1) rfl
    go_wp2_with fail
    clear cZ0 cZ1
    refine (heldReady_any (⟨Z.s0, Z.s1, marks 1 Z.s0.n, marks (1 + Z.s0.n) Z.s1.n⟩ : RdyE) 1 _ HOM.out.reads rfl rfl HZN.out (by decide) (by decide)).mono ?_
    rintro e w22 ⟨rfl, B⟩
    rw [show (1 : Int) + ((⟨Z.s0, Z.s1, marks 1 Z.s0.n, marks (1 + Z.s0.n) Z.s1.n⟩ : RdyE).n : Int) = qm from HQM.out]
    have HOY := hid (HOY.out.old B)
    have HVY := hid (HVY.out.old B)
    have HOM := hid (HOM.out.old B)
    have HVZ := hid (HVZ.out.old B)
    have HOV := hid (HOV.out.old B)
    have HVV := hid (HVV.out.old B)
    have HB1 := hid (below_step HB1.out B (Nat.le_refl _))
    have Sw22 : Hid (w21.heap.size ≤ w22.heap.size) := hid B.size
    clear B
    go_wp2_with fail
    go_ret
    exact ⟨rfl, below_step HB.out HB1.out (Nat.le_refl _)⟩
  · have HA := hid hE
    have HT := hid (szT_no (t := E.n) (left := 1048576) (by omega))
    clear hE
    go_enter Try.func7, Try.ntmps7
    go_wp2_with fail
    refine (szEventS_any E _ _ HA.out.max (by omega) (by omega)).mono ?_
    rintro e w1 ⟨rfl, B1⟩
    rw [HT.out]
    go_wp2_with fail
    go_ret
    exact ⟨rfl, below_step (below_alloc _ _) B1 (Nat.le_refl _)⟩

set_option maxRecDepth 100000 in
theorem lifted (os : Os) (started : os.Started) (H : Type) (enc : TypeId × Value → H) :
    ReturnsInHanded {} Try.checked os 7 .any (Rows.fnExactReadyOfSpec.pre6 enc Try.prog Try.f7 Rows.fnExactReadyOfRow.domain false) (Rows.fnExactReadyOfSpec.post enc Try.prog Try.f7 false true false false) := by
  refine returnsInHanded_of_change (C := Try.checked) own started (by kernel_rfl) Try.func7
    (ChangeSpec.witness6 (enc := enc) (C := Try.checked) false ⟨#[], #[.agg #[.int .i64 0, .int .i64 0, .int .i64 0, .int .i64 0], .slice none 0 0], []⟩ 8 (by kernel_rfl) (by kernel_rfl) (by kernel_rfl) (by kernel_rfl)) ?_
  intro W base args ds gs before hval0 hW hcnd _
  have hval : ∀ (j : Nat) t v, Try.f7.params[j]? = some t → args[j]? = some v → Value.okWide Try.prog W .any base t v := hval0
  have hW' := hW
  obtain ⟨p, q, hA0, hV, rfl, hfz, hnd⟩ := hW
  have hA : DataW.TrodAll enc Try.prog W 0 (fun _ => true) true Try.f7.params.toList args.toList ds p := hA0
  rw [Try.params7] at hA hval
  obtain ⟨v0, vs0, d0, ds0, p0, q0, hargs, rfl, rfl, h0, r0⟩ := trodAll_cons hA
  obtain ⟨v1, vs1, d1, ds1, p1, q1, rfl, rfl, rfl, h1, r1⟩ := trodAll_cons r0
  obtain ⟨rfl, rfl, rfl⟩ := trodAll_nil r1
  obtain rfl : args = #[v0, v1] := by cases args; simp_all
  obtain ⟨rfl, rfl⟩ := trodVars_none hV
  have k0 := h0
  have lt0 : ∀ x ∈ p0, x.block < W.heap.size := by obtain ⟨m, hm⟩ := k0; exact DataW.trod_lt m _ _ _ hm
  obtain ⟨G, rfl⟩ := open_geo (hval 0 48 v0 rfl rfl) h0
  have k1 := h1
  have lt1 : ∀ x ∈ p1, x.block < W.heap.size := by obtain ⟨m, hm⟩ := k1; exact DataW.trod_lt m _ _ _ hm
  obtain ⟨E, rfl, hArgE⟩ := open_events (hval 1 78 v1 rfl rfl) h1
  clear hA0 hval0
  refine (walk W G E hArgE).mono fun e W' ⟨he, bel⟩ => ?_
  subst he
  exact ⟨_, rfl, _, _, _, [], _, [], hW', trodAll_mk1 (shut_bool Try.underlying4 _), (trodAll_cons_mk (Below.trod laidOut (by kernel_rfl) (of_decide_eq_true (by kernel_rfl)) k0 bel lt0) (trodAll_cons_mk (Below.trod laidOut (by kernel_rfl) (of_decide_eq_true (by kernel_rfl)) k1 bel lt1) trodAll_mk0)), rfl, bel.frame _, fun h => by cases h⟩

theorem own_facts : joinedFacts Try.prog 7 Try.f7 Rows.fnExactReadyOfSpec Rows.fnExactReadyOfRow = true :=
  facts_of 7 Try.f7 Rows.fnExactReadyOfSpec Rows.fnExactReadyOfRow (by as_aux_lemma => kernel_rfl) (by as_aux_lemma => kernel_rfl) (by as_aux_lemma => kernel_rfl) rfl rfl
    (by as_aux_lemma => kernel_rfl) (by as_aux_lemma => kernel_rfl) (by as_aux_lemma => kernel_rfl) (by as_aux_lemma => kernel_rfl)
    (by as_aux_lemma => kernel_rfl) (by as_aux_lemma => kernel_rfl) (by as_aux_lemma => kernel_rfl) (by as_aux_lemma => kernel_rfl) (by as_aux_lemma => kernel_rfl)
    (by as_aux_lemma => kernel_rfl) (by as_aux_lemma => kernel_rfl) (by as_aux_lemma => kernel_rfl) (by as_aux_lemma => kernel_rfl)
    rfl rfl rfl rfl (by as_aux_lemma => kernel_rfl) (by as_aux_lemma => kernel_rfl) (by as_aux_lemma => kernel_rfl) (by as_aux_lemma => kernel_rfl)
theorem over : Rows.fnExactReadyOfRow.holds Try.pinned (OpenSpec.ofChange Rows.fnExactReadyOfSpec) :=
  OpenClaim.holds_of_wide 7 Try.f7 rfl rfl rfl rfl rfl rfl rfl ⟨rfl, rfl, rfl, rfl, rfl⟩ rfl rfl rfl rfl rfl (by as_aux_lemma => kernel_rfl) Try.func7 own_facts
    (of_decide_eq_true (by as_aux_lemma => kernel_rfl)) (by unfold Func.isWrapper; first | (rw [if_pos (by decide +kernel)]; kernel_rfl) | (rw [if_neg (by decide +kernel)]; exact ⟨rfl, rfl⟩))
    (fun os started H enc _ => lifted os started H enc)

theorem proved : Rows.FnExactReadyOfSaid := over
#print axioms proved
end Go.Proofs.Ytggjheapjklhgaa.fnExactReadyOf
