/- The law 'FnExactOpenBanks': for every input the program's function and the reference's agree, so the call returns true and leaves its arguments as they were; no condition. -/
import Derived.Test.YtdhfkhpdehgfaaaRows
import Derived.Test.YtdhfkhpdehgfaaaHead
import Derived.Test.YtdhfkhpdehgfaaaRnkF
import Derived.Test.YtdhfkhpdehgfaaaOpenR
import Derived.Test.YtdhfkhpdehgfaaaOpenT
import Derived.Test.YtdhfkhpdehgfaaaInv
import Derived.WalkKit
import Derived.ProofKit
import Derived.OpenShut
import Derived.ShutString
import Derived.ChangeOld
import Derived.Below
namespace Go.Proofs.Ytdhfkhpdehgfaaa.fnExactOpenBanks
open Go.ChangeShapes Go.WideShapes Go.ChangeAt Go.RowKit
set_option linter.unusedVariables false

theorem own : ownKnob Try.prog.godebug = none := by kernel_rfl
theorem laidOut : laidOutB Try.prog = true := by kernel_rfl

theorem small_res (R : RankE) : (openB R.d.banks).length ≤ R.es.length := by
  exact openFrom_len _ _

set_option maxRecDepth 100000 in
theorem walk (w : World) (R : RankE) (hR : ArgRank w R) :
    Calls Try.prog 6 #[.agg #[.slice R.a R.n R.c, .int .i64 R.p]] w fun e w' => e = .returned (.bool true) ∧ Below w.heap.size w w' := by
  by_cases hsz : (R.n : Int) ≤ 1048576
  · have HA := hid hR
    have hn : R.n ≤ 1048576 := by omega
    have HNM := hid hn
    have HSM := hid (show R.es.length ≤ 1048576 by rw [← HA.out.reads.len]; exact hn)
    have HT := hid (szT_yes hsz)
    have h0 : (0 : Int) ≤ 1048576 - R.n := by omega
    generalize hleft : (1048576 : Int) - R.n = left at h0 HT
    have hdl : decide (left < 0) = false := by simp; omega
    clear hR hleft hn
    go_enter Try.func6, Try.ntmps6
    go_wp2_with fail
    refine (szRank_any R _ _ HA.out.max (by omega) (by omega)).mono ?_
    rintro e w1 ⟨rfl, B1⟩
    rw [HT.out]
    have HB := hid (below_step (below_alloc _ _) B1 (Nat.le_refl _))
    have HXRw := hid ((BoxK2.new_ w 24 R (show _ = w.heap.size by simp)).old B1)
    have HRw := hid (HA.out.reads.old HB.out)
    have hB1 := hid (Below.refl w1.heap.size w1)
    have HB1 := hB1
    clear hB1 B1
    go_upto_region 5 with (fail)
    have HXR := hid (HXRw.out.old HB1.out)
    have HR := hid (HRw.out.old HB1.out)
    have cR0 := HXR.out.c0
    have cR1 := HXR.out.c1
    go_wp2_with fail
    clear cR0 cR1
    refine (toRank_any R _ (HR.out) HSM.out).mono ?_
    rintro e w2 ⟨A', rfl, O, D0, N0, B⟩
    have HB1 := hid (below_step HB1.out B (Nat.le_refl _))
    have Sw2 : Hid (w1.heap.size ≤ w2.heap.size) := hid B.size
    clear B
    have HOn := hid O
    have HDn := hid D0
    have HNn := hid N0
    clear O D0 N0
    go_wp2_with fail
    refine (specOpenBanks_any A' _ (HOn.out.reads) (by rw [HNn.out]; exact HNM.out)).mono ?_
    rintro e w3 ⟨Ya, Yn, Yc, rfl, O, B⟩
    have O : OwnS w3 w2.heap.size Ya Yn Yc (openB R.d.banks) := by
      have h : OwnS w3 w2.heap.size Ya Yn Yc (openB A'.d.banks) := O
      rw [show (openB A'.d.banks) = openB R.d.banks from congrArg (fun d => openB d.banks) HDn.out] at h
      exact h
    have HB1 := hid (below_step HB1.out B (Nat.le_refl _))
    have Sw3 : Hid (w2.heap.size ≤ w3.heap.size) := hid B.size
    clear B
    have HOY := hid O
    have hiY := fun (b : Nat) (hb : blkS Ya Yn b) => O.lt hb
    have HIY : Hid (∀ b, blkS Ya Yn b → w2.heap.size ≤ b ∧ b < w3.heap.size) := hid hiY
    clear O hiY
    generalize hr : openB R.d.banks = xs at HOY
    have HV := hid hr
    clear hr
    have HXL : Hid (xs.length ≤ 1048576) := hid (by rw [← HV.out]; exact Nat.le_trans (small_res R) HSM.out)
    go_upto_region 6 with (fail)
    have HXR := hid (HXRw.out.old HB1.out)
    have HR := hid (HRw.out.old HB1.out)
    have cR0 := HXR.out.c0
    have cR1 := HXR.out.c1
    go_wp2_with fail
    clear cR0 cR1
    refine (toRank_any R _ (HR.out) HSM.out).mono ?_
    rintro e w4 ⟨X, rfl, O, D0, N0, B⟩
    have HOY := hid (HOY.out.old B)
    have HB1 := hid (below_step HB1.out B (Nat.le_refl _))
    have Sw4 : Hid (w3.heap.size ≤ w4.heap.size) := hid B.size
    clear B
    have HOX := hid O
    have HDX := hid D0
    have HNX := hid N0
    clear O D0 N0
    have HSMX := hid (show X.es.length ≤ 1048576 by rw [← HOX.out.reads.len, HNX.out]; exact HNM.out)
    go_upto_region 7 with (fail)
    refine wp_world (fun w5 hw => ?_)
    have HXX : Hid (BoxK2 w5 w4.heap.size X) := by rw [hw.out]; exact hid (BoxK2.new_ _ _ _ rfl)
    have B : Below w4.heap.size w4 w5 := by rw [hw.out]; exact below_alloc _ _
    have HOY := hid (HOY.out.old B)
    have HOX := hid (HOX.out.old B)
    have HB1 := hid (below_step HB1.out B (Nat.le_refl _))
    have Sw5 : Hid (w4.heap.size ≤ w5.heap.size) := hid B.size
    clear B hw
    go_upto_region 7 with (fail)
    have HXR := hid (HXRw.out.old HB1.out)
    have HR := hid (HRw.out.old HB1.out)
    have cX0 := HXX.out.c0
    have cX1 := HXX.out.c1
    go_wp2_with fail
    clear cX0 cX1
    refine (implOpenBanks_any X _ (HOX.out.reads) (by rw [HNX.out]; exact HNM.out)).mono ?_
    rintro e w6 ⟨Za, Zn, Zc, rfl, O, B⟩
    have O : OwnS w6 w5.heap.size Za Zn Zc (openB R.d.banks) := by
      have h : OwnS w6 w5.heap.size Za Zn Zc (openB X.d.banks) := O
      rw [show (openB X.d.banks) = openB R.d.banks from congrArg (fun d => openB d.banks) HDX.out] at h
      exact h
    have HOY := hid (HOY.out.old B)
    have HOX := hid (HOX.out.old B)
    have HXX := hid (HXX.out.old B)
    have HB1 := hid (below_step HB1.out B (Nat.le_refl _))
    have Sw6 : Hid (w5.heap.size ≤ w6.heap.size) := hid B.size
    clear B
    have HOZ := hid O
    have hiZ := fun (b : Nat) (hb : blkS Za Zn b) => O.lt hb
    have HIZ : Hid (∀ b, blkS Za Zn b → w5.heap.size ≤ b ∧ b < w6.heap.size) := hid hiZ
    clear O hiZ
    rw [HV.out] at HOZ
    go_upto_region 8 with (fail)
    have HXR := hid (HXRw.out.old HB1.out)
    have HR := hid (HRw.out.old HB1.out)
    go_wp2_with fail
    refine (eqIntS_own Za Ya Zn Yn Zc Yc _ _ xs _ HOZ.out HOY.out HXL.out).mono ?_
    rintro e w7 ⟨rfl, q, B0⟩
    have B : Below w6.heap.size w6 w7 := by rw [B0]; exact below_ofDrewN _ _ _
    clear B0
    have HOY := hid (HOY.out.old B)
    have HOX := hid (HOX.out.old B)
    have HXX := hid (HXX.out.old B)
    have HOZ := hid (HOZ.out.old B)
    have HB1 := hid (below_step HB1.out B (Nat.le_refl _))
    have Sw7 : Hid (w6.heap.size ≤ w7.heap.size) := hid B.size
    clear B
    go_upto_region 10 with (fail)
    have HXR := hid (HXRw.out.old HB1.out)
    have HR := hid (HRw.out.old HB1.out)
    refine grows_of (fr := ?fr1)
      (fun i v w' => match i with
          | 0 => v = .agg #[.slice X.a X.n X.c, .int .i64 X.p]
          | 1 => v = .agg #[.slice R.a R.n R.c, .int .i64 R.p]
          | 2 => ∃ (A' : RankE) (U : Nat), v = .agg #[.slice A'.a A'.n A'.c, .int .i64 A'.p] ∧ OwnR w' w7.heap.size U A' ∧ A'.d = R.d ∧ A'.n = R.n
          | 3 => v = .bool true
          | _ => v = .bool false) (by kernel_rfl) (by kernel_rfl) ?hfr1 ⟨fun _ => undef, ?h01⟩ ?hF1 ?hstep1 ?hend1
    case hfr1 => intro vs; simp only [frOf]; go_simp; exact rfl
    case h01 => rfl
    case hF1 =>
      intro i v w' w'' h hb
      match i, h with
      | 0, h => exact h
      | 1, h => exact h
      | 2, h => obtain ⟨A', U, e, o, d, m⟩ := h; exact ⟨A', U, e, o.old hb, d, m⟩
      | 3, h => exact h
      | n + 4, h => exact h
    case hstep1 =>
      intro vs w' i o ho hb hd
      match i, ho with
      | 0, ho =>
        simp only [List.getElem?_cons_zero, Option.some.injEq] at ho
        subst ho
        refine ⟨wanted_none rfl, ?_⟩
        have c0 := (HXX.out.old hb).c0
        have c1 := (HXX.out.old hb).c1
        generalize hK : (fun (a' : Act) (w'' : World) => ∃ v : Value, _ ∧ _ ∧ _) = K
        go_simp
        rw [← hK]
        exact ⟨_, rfl, rfl, Below.refl _ _⟩
      | 1, ho =>
        simp only [List.getElem?_cons_succ, List.getElem?_cons_zero, Option.some.injEq] at ho
        subst ho
        refine ⟨wanted_none rfl, ?_⟩
        have c0 := (HXR.out.old hb).c0
        have c1 := (HXR.out.old hb).c1
        generalize hK : (fun (a' : Act) (w'' : World) => ∃ v : Value, _ ∧ _ ∧ _) = K
        go_simp
        rw [← hK]
        exact ⟨_, rfl, rfl, Below.refl _ _⟩
      | 2, ho =>
        simp only [List.getElem?_cons_succ, List.getElem?_cons_zero, Option.some.injEq] at ho
        subst ho
        refine ⟨wanted_none rfl, ?_⟩
        have e0 : Hid (vs 1 = .agg #[.slice R.a R.n R.c, .int .i64 R.p]) := hd 1 (by kernel_rfl)
        generalize hK : (fun (a' : Act) (w'' : World) => ∃ v : Value, _ ∧ _ ∧ _) = K
        go_simp
        refine (calls_args (by rw [e0.out]) (toRank_any R _ (HR.out.old hb) HSM.out)).mono ?_
        rintro e w2 ⟨A', rfl, O, D0, N0, B⟩
        rw [← hK]
        exact ⟨_, rfl, ⟨A', _, rfl, OwnR.mono O hb.size, D0, N0⟩, B⟩
      | 3, ho =>
        simp only [List.getElem?_cons_succ, List.getElem?_cons_zero, Option.some.injEq] at ho
        subst ho
        refine ⟨wanted_none rfl, ?_⟩
        have e0 : Hid (vs 0 = .agg #[.slice X.a X.n X.c, .int .i64 X.p]) := hd 0 (by kernel_rfl)
        obtain ⟨A', U, ea', O, D0, N0⟩ := hd 2 (by kernel_rfl)
        have ea := hid ea'
        clear ea'
        generalize hK : (fun (a' : Act) (w'' : World) => ∃ v : Value, _ ∧ _ ∧ _) = K
        go_simp
        refine (calls_args (by rw [e0.out, ea.out]) (eqRank_same X A' _ (HOX.out.reads.old hb) O.reads (by rw [HDX.out, D0]) HSMX.out)).mono ?_
        rintro e w2 ⟨rfl, B⟩
        rw [← hK]
        exact ⟨_, rfl, rfl, B⟩
      | 4, ho =>
        simp only [List.getElem?_cons_succ, List.getElem?_cons_zero, Option.some.injEq] at ho
        subst ho
        refine ⟨wanted_none rfl, ?_⟩
        have e3 : vs 3 = .bool true := hd 3 (by kernel_rfl)
        generalize hK : (fun (a' : Act) (w'' : World) => ∃ v : Value, _ ∧ _ ∧ _) = K
        go_simp
        rw [← hK]
        exact ⟨_, by simp [upd, e3], rfl, Below.refl _ _⟩
      | n + 5, ho => simp at ho
    case hend1 =>
      intro vs w8 hb hf
      have er : vs 4 = .bool false := hf 4 (by decide)
      have HOY := hid (HOY.out.old hb)
      have HOX := hid (HOX.out.old hb)
      have HXX := hid (HXX.out.old hb)
      have HOZ := hid (HOZ.out.old hb)
      have HB1 := hid (below_step HB1.out hb (Nat.le_refl _))
      have Sw8 : Hid (w7.heap.size ≤ w8.heap.size) := hid hb.size
      clear hb hf
      generalize vs 4 = ur at er ⊢
      subst er
      go_upto_region 13 with (fail)
      have HXR := hid (HXRw.out.old HB1.out)
      have HR := hid (HRw.out.old HB1.out)
      have cX0 := HXX.out.c0
      have cX1 := HXX.out.c1
      go_wp2_with fail
      clear cX0 cX1
      refine (markRank_any X _ _ 1 _ HOX.out HSMX.out (by decide) (by decide)).mono ?_
      rintro e w9 ⟨rfl, _, KM⟩
      have KM := hid KM
      have HOY2 := hid (HOY.out.keeps KM.out (fun b hb hS => by have h1 := HOX.out.in_ hS; have h2 := HIY.out b hb; have q0 := Sw2.out; have q1 := Sw3.out; have q2 := Sw4.out; have q3 := Sw5.out; have q4 := Sw6.out; have q5 := Sw7.out; have q6 := Sw8.out; omega))
      have HOZ2 := hid (HOZ.out.keeps KM.out (fun b hb hS => by have h1 := HOX.out.in_ hS; have h2 := HIZ.out b hb; have q0 := Sw2.out; have q1 := Sw3.out; have q2 := Sw4.out; have q3 := Sw5.out; have q4 := Sw6.out; have q5 := Sw7.out; have q6 := Sw8.out; omega))
      have HB1 := hid (HB1.out.trans (KM.out.below HB1.out.size (fun q hq hS => by have h1 := HOX.out.in_ hS; have q0 := Sw2.out; have q1 := Sw3.out; have q2 := Sw4.out; have q3 := Sw5.out; have q4 := Sw6.out; have q5 := Sw7.out; have q6 := Sw8.out; omega)))
      have Sw9 : Hid (w8.heap.size ≤ w9.heap.size) := hid KM.out.size
      clear KM HOX HXX
      clear HOY
      have HOY := HOY2
      clear HOY2
      clear HOZ
      have HOZ := HOZ2
      clear HOZ2
      have hkm : (0 : Int) ≤ 1 + 2 * (X.n : Int) := by omega
      generalize (1 : Int) + 2 * (X.n : Int) = km at hkm
      have dkm : decide (km < 0) = false := by simp; omega
      go_upto_region 14 with (fail)
      have HXR := hid (HXRw.out.old HB1.out)
      have HR := hid (HRw.out.old HB1.out)
      go_wp2_with fail
      refine (eqIntS_own Za Ya Zn Yn Zc Yc _ _ xs _ HOZ.out HOY.out HXL.out).mono ?_
      rintro e w10 ⟨rfl, q, B0⟩
      have B : Below w9.heap.size w9 w10 := by rw [B0]; exact below_ofDrewN _ _ _
      clear B0
      have HOY := hid (HOY.out.old B)
      have HOZ := hid (HOZ.out.old B)
      have HB1 := hid (below_step HB1.out B (Nat.le_refl _))
      have Sw10 : Hid (w9.heap.size ≤ w10.heap.size) := hid B.size
      clear B
      go_upto_region 17 with (fail)
      have HXR := hid (HXRw.out.old HB1.out)
      have HR := hid (HRw.out.old HB1.out)
      have hZn : Zn ≤ 1048576 := by have h1 := HOZ.out.length; have h2 := HXL.out; omega
      go_wp2_with fail
      refine (markIntS_own _ _ _ _ _ xs _ HOZ.out hZn (by decide) (by decide)).mono ?_
      rintro e w11 ⟨rfl, OM, KM⟩
      have KM := hid KM
      have HOY2 := hid (HOY.out.keeps KM.out (fun b hb hS => by have h1 := HIZ.out b hS; have h2 := HIY.out b hb; have q0 := Sw2.out; have q1 := Sw3.out; have q2 := Sw4.out; have q3 := Sw5.out; have q4 := Sw6.out; have q5 := Sw7.out; have q6 := Sw8.out; have q7 := Sw9.out; have q8 := Sw10.out; omega))
      have HB1 := hid (HB1.out.trans (KM.out.below HB1.out.size (fun q hq hS => by have h1 := HIZ.out q hS; have q0 := Sw2.out; have q1 := Sw3.out; have q2 := Sw4.out; have q3 := Sw5.out; have q4 := Sw6.out; have q5 := Sw7.out; have q6 := Sw8.out; have q7 := Sw9.out; have q8 := Sw10.out; omega)))
      have Sw11 : Hid (w10.heap.size ≤ w11.heap.size) := hid KM.out.size
      clear KM HOY HOZ
      have HOY := HOY2
      have HOZ := hid OM
      clear HOY2 OM
      have hq0 : (0 : Int) ≤ 1 + (Zn : Int) := by omega
      have dq : decide ((1 : Int) + (Zn : Int) < 0) = false := by simp; omega
      have dne : ((1 : Int) + (Zn : Int) != (1 : Int) + (Zn : Int)) = false := by simp
      go_upto_region 19 with (fail)
      have HXR := hid (HXRw.out.old HB1.out)
      have HR := hid (HRw.out.old HB1.out)
      have hZn : Zn ≤ 1048576 := hZn
      go_wp2_with fail
      refine (heldIntS_own _ _ _ _ _ _ HOZ.out hZn (by decide) (by decide)).mono ?_
      rintro e w12 ⟨rfl, q, B0⟩
      have B : Below w11.heap.size w11 w12 := by rw [B0]; exact below_ofDrewN _ _ _
      clear B0
      have HOY := hid (HOY.out.old B)
      have HOZ := hid (HOZ.out.old B)
      have HB1 := hid (below_step HB1.out B (Nat.le_refl _))
      have Sw12 : Hid (w11.heap.size ≤ w12.heap.size) := hid B.size
      clear B
      go_upto_region 24 with (fail)
      have HXR := hid (HXRw.out.old HB1.out)
      have HR := hid (HRw.out.old HB1.out)
      have cR0 := HXR.out.c0
      have cR1 := HXR.out.c1
      go_wp2_with fail
      clear cR0 cR1
      refine (toRank_any R _ (HR.out) HSM.out).mono ?_
      rintro e w13 ⟨A', rfl, O, D0, N0, B⟩
      have HOY := hid (HOY.out.old B)
      have HOZ := hid (HOZ.out.old B)
      have HB1 := hid (below_step HB1.out B (Nat.le_refl _))
      have Sw13 : Hid (w12.heap.size ≤ w13.heap.size) := hid B.size
      clear B
      have HOn := hid O
      have HDn := hid D0
      have HNn := hid N0
      clear O D0 N0
      go_wp2_with fail
      refine (implOpenBanks_any A' _ (HOn.out.reads) (by rw [HNn.out]; exact HNM.out)).mono ?_
      rintro e w14 ⟨Va, Vn, Vc, rfl, O, B⟩
      have O : OwnS w14 w13.heap.size Va Vn Vc (openB R.d.banks) := by
        have h : OwnS w14 w13.heap.size Va Vn Vc (openB A'.d.banks) := O
        rw [show (openB A'.d.banks) = openB R.d.banks from congrArg (fun d => openB d.banks) HDn.out] at h
        exact h
      have HOY := hid (HOY.out.old B)
      have HOZ := hid (HOZ.out.old B)
      have HB1 := hid (below_step HB1.out B (Nat.le_refl _))
      have Sw14 : Hid (w13.heap.size ≤ w14.heap.size) := hid B.size
      clear B
      have HOV := hid O
      have hiV := fun (b : Nat) (hb : blkS Va Vn b) => O.lt hb
      have HIV : Hid (∀ b, blkS Va Vn b → w13.heap.size ≤ b ∧ b < w14.heap.size) := hid hiV
      clear O hiV
      rw [HV.out] at HOV
      go_upto_region 25 with (fail)
      have HXR := hid (HXRw.out.old HB1.out)
      have HR := hid (HRw.out.old HB1.out)
      go_wp2_with fail
      refine (eqIntS_own Va Ya Vn Yn Vc Yc _ _ xs _ HOV.out HOY.out HXL.out).mono ?_
      rintro e w15 ⟨rfl, q, B0⟩
      have B : Below w14.heap.size w14 w15 := by rw [B0]; exact below_ofDrewN _ _ _
      clear B0
      have HOY := hid (HOY.out.old B)
      have HOZ := hid (HOZ.out.old B)
      have HOV := hid (HOV.out.old B)
      have HB1 := hid (below_step HB1.out B (Nat.le_refl _))
      have Sw15 : Hid (w14.heap.size ≤ w15.heap.size) := hid B.size
      clear B
      go_upto_region 28 with (fail)
      have HXR := hid (HXRw.out.old HB1.out)
      have HR := hid (HRw.out.old HB1.out)
      have hZn : Zn ≤ 1048576 := hZn
      go_wp2_with fail
      refine (heldIntS_own _ _ _ _ _ _ HOZ.out hZn (by decide) (by decide)).mono ?_
      rintro e w16 ⟨rfl, q, B0⟩
      have B : Below w15.heap.size w15 w16 := by rw [B0]; exact below_ofDrewN _ _ _
      clear B0
      have HOY := hid (HOY.out.old B)
      have HOZ := hid (HOZ.out.old B)
      have HOV := hid (HOV.out.old B)
      have HB1 := hid (below_step HB1.out B (Nat.le_refl _))
      have Sw16 : Hid (w15.heap.size ≤ w16.heap.size) := hid B.size
      clear B
      go_wp2_with fail
      go_ret
      exact ⟨rfl, below_step HB.out HB1.out (Nat.le_refl _)⟩
  · have HA := hid hR
    have HT := hid (szT_no (t := R.n) (left := 1048576) (by omega))
    clear hR
    go_enter Try.func6, Try.ntmps6
    go_wp2_with fail
    refine (szRank_any R _ _ HA.out.max (by omega) (by omega)).mono ?_
    rintro e w1 ⟨rfl, B1⟩
    rw [HT.out]
    go_wp2_with fail
    go_ret
    exact ⟨rfl, below_step (below_alloc _ _) B1 (Nat.le_refl _)⟩

set_option maxRecDepth 100000 in
theorem lifted (os : Os) (started : os.Started) (H : Type) (enc : TypeId × Value → H) :
    ReturnsInHanded {} Try.checked os 6 .any (Rows.fnExactOpenBanksSpec.pre6 enc Try.prog Try.f6 Rows.fnExactOpenBanksRow.domain false) (Rows.fnExactOpenBanksSpec.post enc Try.prog Try.f6 false true false false) := by
  refine returnsInHanded_of_change (C := Try.checked) own started (by kernel_rfl) Try.func6
    (ChangeSpec.witness6 (enc := enc) (C := Try.checked) false ⟨#[], #[.agg #[.slice none 0 0, .int .i64 0]], []⟩ 8 (by kernel_rfl) (by kernel_rfl) (by kernel_rfl) (by kernel_rfl)) ?_
  intro W base args ds gs before hval0 hW hcnd _
  have hval : ∀ (j : Nat) t v, Try.f6.params[j]? = some t → args[j]? = some v → Value.okWide Try.prog W .any base t v := hval0
  have hW' := hW
  obtain ⟨p, q, hA0, hV, rfl, hfz, hnd⟩ := hW
  have hA : DataW.TrodAll enc Try.prog W 0 (fun _ => true) true Try.f6.params.toList args.toList ds p := hA0
  rw [Try.params6] at hA hval
  obtain ⟨v0, vs0, d0, ds0, p0, q0, hargs, rfl, rfl, h0, r0⟩ := trodAll_cons hA
  obtain ⟨rfl, rfl, rfl⟩ := trodAll_nil r0
  obtain rfl : args = #[v0] := by cases args; simp_all
  obtain ⟨rfl, rfl⟩ := trodVars_none hV
  have k0 := h0
  have lt0 : ∀ x ∈ p0, x.block < W.heap.size := by obtain ⟨m, hm⟩ := k0; exact DataW.trod_lt m _ _ _ hm
  obtain ⟨R, rfl, hArgR⟩ := open_rank (hval 0 24 v0 rfl rfl) h0
  clear hA0 hval0
  refine (walk W R hArgR).mono fun e W' ⟨he, bel⟩ => ?_
  subst he
  exact ⟨_, rfl, _, _, _, [], _, [], hW', trodAll_mk1 (shut_bool Try.underlying4 _), (trodAll_cons_mk (Below.trod laidOut (by kernel_rfl) (of_decide_eq_true (by kernel_rfl)) k0 bel lt0) trodAll_mk0), rfl, bel.frame _, fun h => by cases h⟩

theorem own_facts : joinedFacts Try.prog 6 Try.f6 Rows.fnExactOpenBanksSpec Rows.fnExactOpenBanksRow = true :=
  facts_of 6 Try.f6 Rows.fnExactOpenBanksSpec Rows.fnExactOpenBanksRow (by as_aux_lemma => kernel_rfl) (by as_aux_lemma => kernel_rfl) (by as_aux_lemma => kernel_rfl) rfl rfl
    (by as_aux_lemma => kernel_rfl) (by as_aux_lemma => kernel_rfl) (by as_aux_lemma => kernel_rfl) (by as_aux_lemma => kernel_rfl)
    (by as_aux_lemma => kernel_rfl) (by as_aux_lemma => kernel_rfl) (by as_aux_lemma => kernel_rfl) (by as_aux_lemma => kernel_rfl) (by as_aux_lemma => kernel_rfl)
    (by as_aux_lemma => kernel_rfl) (by as_aux_lemma => kernel_rfl) (by as_aux_lemma => kernel_rfl) (by as_aux_lemma => kernel_rfl)
    rfl rfl rfl rfl (by as_aux_lemma => kernel_rfl) (by as_aux_lemma => kernel_rfl) (by as_aux_lemma => kernel_rfl) (by as_aux_lemma => kernel_rfl)
theorem over : Rows.fnExactOpenBanksRow.holds Try.pinned (OpenSpec.ofChange Rows.fnExactOpenBanksSpec) :=
  OpenClaim.holds_of_wide 6 Try.f6 rfl rfl rfl rfl rfl rfl rfl ⟨rfl, rfl, rfl, rfl, rfl⟩ rfl rfl rfl rfl rfl (by as_aux_lemma => kernel_rfl) Try.func6 own_facts
    (of_decide_eq_true (by as_aux_lemma => kernel_rfl)) (by unfold Func.isWrapper; first | (rw [if_pos (by decide +kernel)]; kernel_rfl) | (rw [if_neg (by decide +kernel)]; exact ⟨rfl, rfl⟩))
    (fun os started H enc _ => lifted os started H enc)

theorem proved : Rows.FnExactOpenBanksSaid := over
#print axioms proved
end Go.Proofs.Ytdhfkhpdehgfaaa.fnExactOpenBanks
