/- The law 'FnExactRankAfter': for every input the program's function and the reference's agree, so the call returns true and leaves its arguments as they were; no condition. -/
import Derived.Test.YtggjheapjklhgaaRows
import Derived.Test.YtggjheapjklhgaaHead
import Derived.Test.YtggjheapjklhgaaLwR
import Derived.Test.YtggjheapjklhgaaRkA
import Derived.Test.YtggjheapjklhgaaAlwW
import Derived.Test.YtggjheapjklhgaaAdrW
import Derived.Test.YtggjheapjklhgaaEvtW
import Derived.Test.YtggjheapjklhgaaOpenR
import Derived.Test.YtggjheapjklhgaaOpenT
import Derived.WalkKit
import Derived.ProofKit
import Derived.OpenShut
import Derived.ShutString
import Derived.ChangeOld
import Derived.Below
namespace Go.Proofs.Ytggjheapjklhgaa.fnExactRankAfter
open Go.ChangeShapes Go.WideShapes Go.ChangeAt Go.RowKit
set_option linter.unusedVariables false

theorem own : ownKnob Try.prog.godebug = none := by kernel_rfl
theorem laidOut : laidOutB Try.prog = true := by kernel_rfl


set_option maxRecDepth 100000 in
theorem walk (w : World) (G : Geo) (R : RankE) (hR : ArgRank w R) (C : Cmd) :
    Calls Try.prog 6 #[.agg #[.int .i64 G.a, .int .i64 G.b, .int .i64 G.r, .int .i64 G.c], .agg #[.slice R.a R.n R.c, .int .i64 R.p], .agg #[.int .i64 C.k, .int .i64 C.b, .int .i64 C.r, .int .i64 C.c]] w fun e w' => e = .returned (.bool true) ∧ Below w.heap.size w w' := by
  obtain ⟨vd, hvd⟩ : ∃ d : RkD, rankAfter G R.d C = d := ⟨_, rfl⟩
  have HVD := hid hvd
  clear hvd
  obtain ⟨okv, hok⟩ : ∃ b : Bool, allowed G R.d C = b := ⟨_, rfl⟩
  have HOK := hid hok
  clear hok
  have hoo : (okv != okv) = false := by simp
  by_cases hsz : (R.n : Int) ≤ 1048576
  · have HA := hid hR
    have hn : R.n ≤ 1048576 := by omega
    have HNM := hid hn
    have HSM := hid (show R.es.length ≤ 1048576 by rw [← HA.out.reads.len]; exact hn)
    have HT := hid (szT_yes hsz)
    have h0 : (0 : Int) ≤ 1048576 - R.n := by omega
    generalize hleft : (1048576 : Int) - R.n = left at h0 HT
    have hdl : decide (left < 0) = false := by simp; omega
    clear hR hleft hn
    go_enter Try.func6, Try.ntmps6
    go_wp2_with fail
    refine (szRank_any R _ _ HA.out.max (by omega) (by omega)).mono ?_
    rintro e w1 ⟨rfl, B1⟩
    rw [HT.out]
    have HB := hid (below_step (below_alloc3 _ _ _ _) B1 (Nat.le_refl _))
    have HXGw := hid ((((BoxG.new_ w 48 G (show _ = w.heap.size by simp)).old (below_alloc _ _)).old (below_alloc _ _)).old B1)
    have HXRw := hid (((BoxK2.new_ (w.alloc _) 73 R (show _ = w.heap.size + 1 by simp)).old (below_alloc _ _)).old B1)
    have HXCw := hid ((BoxC.new_ ((w.alloc _).alloc _) 50 C (show _ = w.heap.size + 1 + 1 by simp)).old B1)
    have HRw := hid (HA.out.reads.old HB.out)
    have hB1 := hid (Below.refl w1.heap.size w1)
    have HB1 := hB1
    clear hB1 B1
    go_upto_region 5 with (fail)
    have HXG := hid (HXGw.out.old HB1.out)
    have HXR := hid (HXRw.out.old HB1.out)
    have HXC := hid (HXCw.out.old HB1.out)
    have HR := hid (HRw.out.old HB1.out)
    refine grow3_of 11 9 (.bool okv) (fr := ?fr1)
      (fun i v w' => match i with
          | 0 => v = .agg #[.int .i64 G.a, .int .i64 G.b, .int .i64 G.r, .int .i64 G.c]
          | 1 => v = .agg #[.int .i64 G.a, .int .i64 G.b, .int .i64 G.r, .int .i64 G.c]
          | 2 => v = .agg #[.slice R.a R.n R.c, .int .i64 R.p]
          | 3 => ∃ (A' : RankE) (U : Nat), v = .agg #[.slice A'.a A'.n A'.c, .int .i64 A'.p] ∧ OwnR w' w1.heap.size U A' ∧ A'.d = R.d ∧ A'.n = R.n
          | 4 => v = .agg #[.int .i64 C.k, .int .i64 C.b, .int .i64 C.r, .int .i64 C.c]
          | 5 => v = .agg #[.int .i64 C.k, .int .i64 C.b, .int .i64 C.r, .int .i64 C.c]
          | 6 => ∃ Lx : RankE, v = .tuple #[.agg #[.slice Lx.a Lx.n Lx.c, .int .i64 Lx.p], .bool okv] ∧ OwnR w' w1.heap.size w'.heap.size Lx ∧ Lx.d = vd
          | 7 => ∃ Lx : RankE, v = .tuple #[.agg #[.slice Lx.a Lx.n Lx.c, .int .i64 Lx.p], .bool okv] ∧ OwnR w' w1.heap.size w'.heap.size Lx ∧ Lx.d = vd
          | 8 => ∃ Lx : RankE, v = .agg #[.slice Lx.a Lx.n Lx.c, .int .i64 Lx.p] ∧ OwnR w' w1.heap.size w'.heap.size Lx ∧ Lx.d = vd
          | 9 => v = .bool okv
          | _ => ∃ g : Nat, v = .pointer (some ⟨g, 0, none⟩) ∧ w1.heap.size ≤ g ∧ Blk w' g 41 [.slice none 0 0, .int .i64 0])
      (fun vs w' => (∃ Tx : RankE, vs 7 = .tuple #[.agg #[.slice Tx.a Tx.n Tx.c, .int .i64 Tx.p], .bool okv]) ∧ ∃ (Lx : RankE) (g : Nat), vs 10 = .pointer (some ⟨g, 0, none⟩) ∧ w1.heap.size ≤ g ∧ Blk w' g 41 [.slice Lx.a Lx.n Lx.c, .int .i64 Lx.p] ∧ OwnR w' w1.heap.size w'.heap.size Lx ∧ ¬ blkR Lx g ∧ Lx.d = vd ∧ Below w1.heap.size w1 w') (by kernel_rfl) (by kernel_rfl) rfl (by decide) ?hlast1 ?hlbst1 ?hfr1 ⟨fun _ => undef, ?h01⟩ ?hF1 ?hX1 ?hstep1 ?hstore1 ?hlate1 ?hend1
    case hfr1 => intro vs; simp only [frOf, List.take_succ_cons, List.take_zero]; go_simp; exact rfl
    case h01 => rfl
    case hX1 => exact fun v w h => h
    case hlast1 =>
      intro o ho i hi hne
      simp only [List.getElem?_cons_succ, List.getElem?_cons_zero, Option.some.injEq] at ho
      subst ho
      match i, hi, hne with
      | 0, _, _ => show (_ : Bool) = true; kernel_rfl
      | 1, _, _ => show (_ : Bool) = true; kernel_rfl
      | 2, _, _ => show (_ : Bool) = true; kernel_rfl
      | 3, _, _ => show (_ : Bool) = true; kernel_rfl
      | 4, _, _ => show (_ : Bool) = true; kernel_rfl
      | 5, _, _ => show (_ : Bool) = true; kernel_rfl
      | 6, _, _ => show (_ : Bool) = true; kernel_rfl
      | 7, _, _ => show (_ : Bool) = true; kernel_rfl
      | 8, _, _ => show (_ : Bool) = true; kernel_rfl
      | 9, _, hne => exact absurd rfl hne
      | 10, _, _ => show (_ : Bool) = true; kernel_rfl
    case hlbst1 =>
      intro o ho i hi
      simp only [List.getElem?_cons_succ, List.getElem?_cons_zero, Option.some.injEq] at ho
      subst ho
      match i, hi with
      | 0, _ => show (_ : Bool) = true; kernel_rfl
      | 1, _ => show (_ : Bool) = true; kernel_rfl
      | 2, _ => show (_ : Bool) = true; kernel_rfl
      | 3, _ => show (_ : Bool) = true; kernel_rfl
      | 4, _ => show (_ : Bool) = true; kernel_rfl
      | 5, _ => show (_ : Bool) = true; kernel_rfl
      | 6, _ => show (_ : Bool) = true; kernel_rfl
      | 7, _ => show (_ : Bool) = true; kernel_rfl
      | 8, _ => show (_ : Bool) = true; kernel_rfl
      | 9, _ => show (_ : Bool) = true; kernel_rfl
      | 10, _ => show (_ : Bool) = true; kernel_rfl
      | 11, _ => show (_ : Bool) = true; kernel_rfl
    case hF1 =>
      intro i v w' w'' h hb
      match i, h with
      | 0, h => exact h
      | 1, h => exact h
      | 2, h => exact h
      | 3, h => obtain ⟨A', U, e, o, d, m⟩ := h; exact ⟨A', U, e, o.old hb, d, m⟩
      | 4, h => exact h
      | 5, h => exact h
      | 6, h => obtain ⟨Lx, e, o, d⟩ := h; exact ⟨Lx, e, OwnR.up (o.old hb) hb.size (Nat.le_refl _), d⟩
      | 7, h => obtain ⟨Lx, e, o, d⟩ := h; exact ⟨Lx, e, OwnR.up (o.old hb) hb.size (Nat.le_refl _), d⟩
      | 8, h => obtain ⟨Lx, e, o, d⟩ := h; exact ⟨Lx, e, OwnR.up (o.old hb) hb.size (Nat.le_refl _), d⟩
      | 9, h => exact h
      | n + 10, h => obtain ⟨g, e, l, o⟩ := h; exact ⟨g, e, l, o.old hb⟩
    case hstep1 =>
      intro vs w' i o hin ho hb hd
      match i, ho, hin with
      | 0, ho, _ =>
        simp only [List.getElem?_cons_zero, Option.some.injEq] at ho
        subst ho
        refine ⟨wanted_none rfl, ?_⟩
        have c0 := (HXG.out.old hb).c0
        have c1 := (HXG.out.old hb).c1
        have c2 := (HXG.out.old hb).c2
        have c3 := (HXG.out.old hb).c3
        generalize hK : (fun (a' : Act) (w'' : World) => ∃ v : Value, _ ∧ _ ∧ _) = K
        go_simp
        rw [← hK]
        exact ⟨_, rfl, rfl, Below.refl _ _⟩
      | 1, ho, _ =>
        simp only [List.getElem?_cons_succ, List.getElem?_cons_zero, Option.some.injEq] at ho
        subst ho
        refine ⟨wanted_none rfl, ?_⟩
        have e0 : Hid (vs 0 = .agg #[.int .i64 G.a, .int .i64 G.b, .int .i64 G.r, .int .i64 G.c]) := hd 0 (by kernel_rfl)
        generalize hK : (fun (a' : Act) (w'' : World) => ∃ v : Value, _ ∧ _ ∧ _) = K
        go_simp
        refine (calls_args (by rw [e0.out]) (toGeometry_any G _)).mono ?_
        rintro e w2 ⟨rfl, B⟩
        rw [← hK]
        exact ⟨_, rfl, rfl, B⟩
      | 2, ho, _ =>
        simp only [List.getElem?_cons_succ, List.getElem?_cons_zero, Option.some.injEq] at ho
        subst ho
        refine ⟨wanted_none rfl, ?_⟩
        have c0 := (HXR.out.old hb).c0
        have c1 := (HXR.out.old hb).c1
        generalize hK : (fun (a' : Act) (w'' : World) => ∃ v : Value, _ ∧ _ ∧ _) = K
        go_simp
        rw [← hK]
        exact ⟨_, rfl, rfl, Below.refl _ _⟩
      | 3, ho, _ =>
        simp only [List.getElem?_cons_succ, List.getElem?_cons_zero, Option.some.injEq] at ho
        subst ho
        refine ⟨wanted_none rfl, ?_⟩
        have e0 : Hid (vs 2 = .agg #[.slice R.a R.n R.c, .int .i64 R.p]) := hd 2 (by kernel_rfl)
        generalize hK : (fun (a' : Act) (w'' : World) => ∃ v : Value, _ ∧ _ ∧ _) = K
        go_simp
        refine (calls_args (by rw [e0.out]) (toRank_any R _ (HR.out.old hb) HSM.out)).mono ?_
        rintro e w2 ⟨A', rfl, O, D0, N0, B⟩
        rw [← hK]
        exact ⟨_, rfl, ⟨A', _, rfl, OwnR.mono O hb.size, D0, N0⟩, B⟩
      | 4, ho, _ =>
        simp only [List.getElem?_cons_succ, List.getElem?_cons_zero, Option.some.injEq] at ho
        subst ho
        refine ⟨wanted_none rfl, ?_⟩
        have c0 := (HXC.out.old hb).c0
        have c1 := (HXC.out.old hb).c1
        have c2 := (HXC.out.old hb).c2
        have c3 := (HXC.out.old hb).c3
        generalize hK : (fun (a' : Act) (w'' : World) => ∃ v : Value, _ ∧ _ ∧ _) = K
        go_simp
        rw [← hK]
        exact ⟨_, rfl, rfl, Below.refl _ _⟩
      | 5, ho, _ =>
        simp only [List.getElem?_cons_succ, List.getElem?_cons_zero, Option.some.injEq] at ho
        subst ho
        refine ⟨wanted_none rfl, ?_⟩
        have e0 : Hid (vs 4 = .agg #[.int .i64 C.k, .int .i64 C.b, .int .i64 C.r, .int .i64 C.c]) := hd 4 (by kernel_rfl)
        generalize hK : (fun (a' : Act) (w'' : World) => ∃ v : Value, _ ∧ _ ∧ _) = K
        go_simp
        refine (calls_args (by rw [e0.out]) (toCommand_any C _)).mono ?_
        rintro e w2 ⟨rfl, B⟩
        rw [← hK]
        exact ⟨_, rfl, rfl, B⟩
      | 6, ho, _ =>
        simp only [List.getElem?_cons_succ, List.getElem?_cons_zero, Option.some.injEq] at ho
        subst ho
        refine ⟨wanted_none rfl, ?_⟩
        have e1 : Hid (vs 1 = .agg #[.int .i64 G.a, .int .i64 G.b, .int .i64 G.r, .int .i64 G.c]) := hd 1 (by kernel_rfl)
        obtain ⟨A', U, ea', O', D0, N0⟩ := hd 3 (by kernel_rfl)
        have ea := hid ea'
        clear ea'
        have e5 : Hid (vs 5 = .agg #[.int .i64 C.k, .int .i64 C.b, .int .i64 C.r, .int .i64 C.c]) := hd 5 (by kernel_rfl)
        generalize hK : (fun (a' : Act) (w'' : World) => ∃ v : Value, _ ∧ _ ∧ _) = K
        go_simp
        refine (calls_args (by rw [e1.out, ea.out, e5.out]) (specRankAfter_any G A' C _ (O'.reads) (by rw [N0]; exact HNM.out))).mono ?_
        rintro e w2 ⟨Lx, rfl, O, D1, B⟩
        rw [← hK]
        exact ⟨_, rfl, ⟨Lx, by rw [D0, HOK.out], OwnR.mono O hb.size, D1.trans (by rw [D0, HVD.out])⟩, B⟩
      | 7, ho, _ =>
        simp only [List.getElem?_cons_succ, List.getElem?_cons_zero, Option.some.injEq] at ho
        subst ho
        refine ⟨wanted_none rfl, ?_⟩
        obtain ⟨Lx, ev, OO, dd⟩ := hd 6 (by kernel_rfl)
        generalize hK : (fun (a' : Act) (w'' : World) => ∃ v : Value, _ ∧ _ ∧ _) = K
        go_simp
        rw [← hK]
        exact ⟨_, by simp [upd, ev], ⟨Lx, rfl, OO, dd⟩, Below.refl _ _⟩
      | 8, ho, _ =>
        simp only [List.getElem?_cons_succ, List.getElem?_cons_zero, Option.some.injEq] at ho
        subst ho
        refine ⟨wanted_none rfl, ?_⟩
        obtain ⟨Lx, ev, OO, dd⟩ := hd 7 (by kernel_rfl)
        generalize hK : (fun (a' : Act) (w'' : World) => ∃ v : Value, _ ∧ _ ∧ _) = K
        go_simp
        rw [← hK]
        exact ⟨_, by simp [upd, ev], ⟨Lx, rfl, OO, dd⟩, Below.refl _ _⟩
      | 9, ho, _ =>
        simp only [List.getElem?_cons_succ, List.getElem?_cons_zero, Option.some.injEq] at ho
        subst ho
        refine ⟨wanted_none rfl, ?_⟩
        obtain ⟨Lx, ev, OO, dd⟩ := hd 7 (by kernel_rfl)
        generalize hK : (fun (a' : Act) (w'' : World) => ∃ v : Value, _ ∧ _ ∧ _) = K
        go_simp
        rw [← hK]
        exact ⟨_, by simp [upd, ev], rfl, Below.refl _ _⟩
      | 10, ho, _ =>
        simp only [List.getElem?_cons_succ, List.getElem?_cons_zero, Option.some.injEq] at ho
        subst ho
        refine ⟨wanted_none rfl, ?_⟩
        generalize hK : (fun (a' : Act) (w'' : World) => ∃ v : Value, _ ∧ _ ∧ _) = K
        go_simp
        rw [← hK]
        exact ⟨_, rfl, ⟨_, rfl, hb.size, Blk.new _ _ _⟩, below_alloc _ _⟩
      | n + 11, _, hin => exact absurd hin (by omega)
    case hstore1 =>
      intro vs w' o ho hb hf
      simp only [List.getElem?_cons_succ, List.getElem?_cons_zero, Option.some.injEq] at ho
      subst ho
      refine ⟨wanted_none rfl, ?_⟩
      obtain ⟨Tx, et, _, _⟩ := hf 7 (by decide) (by decide)
      obtain ⟨Lx, er, O, D0⟩ := hf 8 (by decide) (by decide)
      obtain ⟨g, ep, hg, N⟩ := hf 10 (by decide) (by decide)
      have HSS := hid (rank_stored N O hg)
      have HET := hid et
      have HHB := hid hb
      have HHG := hid hg
      have HDD := hid D0
      have c0 := N.cell (j := 0) rfl
      have c1 := N.cell (j := 1) rfl
      have f0 := N.frozen 0
      have f1 := N.frozen 1
      clear et O N hb hg hf D0
      generalize hK : (fun (a' : Act) (w'' : World) => _ ∧ _ ∧ _) = K
      go_simp
      clear c0 c1 f0 f1
      rw [← hK]
      obtain ⟨s1, s2, s3, s4⟩ := HSS.out
      exact ⟨by simp [er, ep], ⟨Tx, HET.out⟩, Lx, g, ep, HHG.out, s1, s2, s4, HDD.out, HHB.out.trans s3⟩
    case hlate1 =>
      intro vs w' o ho hg
      simp only [List.getElem?_cons_succ, List.getElem?_cons_zero, Option.some.injEq] at ho
      subst ho
      refine ⟨wanted_none rfl, ?_⟩
      obtain ⟨⟨Tx, et⟩, hg2⟩ := hg
      have HG2 := hid hg2
      clear hg2
      generalize hK : (fun (a' : Act) (w'' : World) => _ ∧ _ ∧ _) = K
      go_simp
      rw [← hK]
      exact ⟨by simp [upd, et], ⟨Tx, by simpa [upd] using et⟩, by simpa [upd] using HG2.out⟩
    case hend1 =>
      intro vs w2 o ho hg hx
      simp only [List.getElem?_cons_succ, List.getElem?_cons_zero, Option.some.injEq] at ho
      subst ho
      refine ⟨wanted_none rfl, ?_⟩
      obtain ⟨_, Y, gY, ep, hg1, N, O, hn, D0, hbb⟩ := hg
      generalize vs 9 = ub at hx ⊢
      subst hx
      generalize vs 10 = up at ep ⊢
      subst ep
      have HOY_ := hid O
      have HVY_ := hid N
      have hlY := N.lt
      have HGY : Hid (w1.heap.size ≤ gY ∧ gY < w2.heap.size) := hid ⟨hg1, hlY⟩
      have HNY := hid hn
      have HDY := hid D0
      have HHB := hid hbb
      clear O N hg1 hn D0 hbb hlY
      go_simp
      have HB1 := hid (below_step HB1.out HHB.out (Nat.le_refl _))
      have Sw2 : Hid (w1.heap.size ≤ w2.heap.size) := hid HHB.out.size
      clear HHB
      have HOY := HOY_
      have HVY := HVY_
      clear HOY_ HVY_
      go_upto_region 6 with (fail)
      have HXG := hid (HXGw.out.old HB1.out)
      have HXR := hid (HXRw.out.old HB1.out)
      have HXC := hid (HXCw.out.old HB1.out)
      have HR := hid (HRw.out.old HB1.out)
      have cR0 := HXR.out.c0
      have cR1 := HXR.out.c1
      go_wp2_with fail
      clear cR0 cR1
      refine (toRank_any R _ (HR.out) HSM.out).mono ?_
      rintro e w3 ⟨X, rfl, O, D0, N0, B⟩
      have HOY := hid (HOY.out.old B)
      have HVY := hid (HVY.out.old B)
      have HB1 := hid (below_step HB1.out B (Nat.le_refl _))
      have Sw3 : Hid (w2.heap.size ≤ w3.heap.size) := hid B.size
      clear B
      have HOX := hid O
      have HDX := hid D0
      have HNX := hid N0
      clear O D0 N0
      have HSMX := hid (show X.es.length ≤ 1048576 by rw [← HOX.out.reads.len, HNX.out]; exact HNM.out)
      go_upto_region 7 with (fail)
      refine wp_world (fun w4 hw => ?_)
      have HXX : Hid (BoxK2 w4 w3.heap.size X) := by rw [hw.out]; exact hid (BoxK2.new_ _ _ _ rfl)
      have B : Below w3.heap.size w3 w4 := by rw [hw.out]; exact below_alloc _ _
      have HOX := hid (HOX.out.old B)
      have HOY := hid (HOY.out.old B)
      have HVY := hid (HVY.out.old B)
      have HB1 := hid (below_step HB1.out B (Nat.le_refl _))
      have Sw4 : Hid (w3.heap.size ≤ w4.heap.size) := hid B.size
      clear B hw
      go_upto_region 7 with (fail)
      have HXG := hid (HXGw.out.old HB1.out)
      have HXR := hid (HXRw.out.old HB1.out)
      have HXC := hid (HXCw.out.old HB1.out)
      have HR := hid (HRw.out.old HB1.out)
      refine grow3_of 10 8 (.bool okv) (fr := ?fr2)
        (fun i v w' => match i with
            | 0 => v = .agg #[.int .i64 G.a, .int .i64 G.b, .int .i64 G.r, .int .i64 G.c]
            | 1 => v = .agg #[.int .i64 G.a, .int .i64 G.b, .int .i64 G.r, .int .i64 G.c]
            | 2 => v = .agg #[.slice X.a X.n X.c, .int .i64 X.p]
            | 3 => v = .agg #[.int .i64 C.k, .int .i64 C.b, .int .i64 C.r, .int .i64 C.c]
            | 4 => v = .agg #[.int .i64 C.k, .int .i64 C.b, .int .i64 C.r, .int .i64 C.c]
            | 5 => ∃ Lx : RankE, v = .tuple #[.agg #[.slice Lx.a Lx.n Lx.c, .int .i64 Lx.p], .bool okv] ∧ OwnR w' w4.heap.size w'.heap.size Lx ∧ Lx.d = vd
            | 6 => ∃ Lx : RankE, v = .tuple #[.agg #[.slice Lx.a Lx.n Lx.c, .int .i64 Lx.p], .bool okv] ∧ OwnR w' w4.heap.size w'.heap.size Lx ∧ Lx.d = vd
            | 7 => ∃ Lx : RankE, v = .agg #[.slice Lx.a Lx.n Lx.c, .int .i64 Lx.p] ∧ OwnR w' w4.heap.size w'.heap.size Lx ∧ Lx.d = vd
            | 8 => v = .bool okv
            | _ => ∃ g : Nat, v = .pointer (some ⟨g, 0, none⟩) ∧ w4.heap.size ≤ g ∧ Blk w' g 41 [.slice none 0 0, .int .i64 0])
        (fun vs w' => (∃ Tx : RankE, vs 6 = .tuple #[.agg #[.slice Tx.a Tx.n Tx.c, .int .i64 Tx.p], .bool okv]) ∧ ∃ (Lx : RankE) (g : Nat), vs 9 = .pointer (some ⟨g, 0, none⟩) ∧ w4.heap.size ≤ g ∧ Blk w' g 41 [.slice Lx.a Lx.n Lx.c, .int .i64 Lx.p] ∧ OwnR w' w4.heap.size w'.heap.size Lx ∧ ¬ blkR Lx g ∧ Lx.d = vd ∧ Below w4.heap.size w4 w') (by kernel_rfl) (by kernel_rfl) rfl (by decide) ?hlast2 ?hlbst2 ?hfr2 ⟨fun _ => undef, ?h02⟩ ?hF2 ?hX2 ?hstep2 ?hstore2 ?hlate2 ?hend2
      case hfr2 => intro vs; simp only [frOf, List.take_succ_cons, List.take_zero]; go_simp; exact rfl
      case h02 => rfl
      case hX2 => exact fun v w h => h
      case hlast2 =>
        intro o ho i hi hne
        simp only [List.getElem?_cons_succ, List.getElem?_cons_zero, Option.some.injEq] at ho
        subst ho
        match i, hi, hne with
        | 0, _, _ => show (_ : Bool) = true; kernel_rfl
        | 1, _, _ => show (_ : Bool) = true; kernel_rfl
        | 2, _, _ => show (_ : Bool) = true; kernel_rfl
        | 3, _, _ => show (_ : Bool) = true; kernel_rfl
        | 4, _, _ => show (_ : Bool) = true; kernel_rfl
        | 5, _, _ => show (_ : Bool) = true; kernel_rfl
        | 6, _, _ => show (_ : Bool) = true; kernel_rfl
        | 7, _, _ => show (_ : Bool) = true; kernel_rfl
        | 8, _, hne => exact absurd rfl hne
        | 9, _, _ => show (_ : Bool) = true; kernel_rfl
      case hlbst2 =>
        intro o ho i hi
        simp only [List.getElem?_cons_succ, List.getElem?_cons_zero, Option.some.injEq] at ho
        subst ho
        match i, hi with
        | 0, _ => show (_ : Bool) = true; kernel_rfl
        | 1, _ => show (_ : Bool) = true; kernel_rfl
        | 2, _ => show (_ : Bool) = true; kernel_rfl
        | 3, _ => show (_ : Bool) = true; kernel_rfl
        | 4, _ => show (_ : Bool) = true; kernel_rfl
        | 5, _ => show (_ : Bool) = true; kernel_rfl
        | 6, _ => show (_ : Bool) = true; kernel_rfl
        | 7, _ => show (_ : Bool) = true; kernel_rfl
        | 8, _ => show (_ : Bool) = true; kernel_rfl
        | 9, _ => show (_ : Bool) = true; kernel_rfl
        | 10, _ => show (_ : Bool) = true; kernel_rfl
      case hF2 =>
        intro i v w' w'' h hb
        match i, h with
        | 0, h => exact h
        | 1, h => exact h
        | 2, h => exact h
        | 3, h => exact h
        | 4, h => exact h
        | 5, h => obtain ⟨Lx, e, o, d⟩ := h; exact ⟨Lx, e, OwnR.up (o.old hb) hb.size (Nat.le_refl _), d⟩
        | 6, h => obtain ⟨Lx, e, o, d⟩ := h; exact ⟨Lx, e, OwnR.up (o.old hb) hb.size (Nat.le_refl _), d⟩
        | 7, h => obtain ⟨Lx, e, o, d⟩ := h; exact ⟨Lx, e, OwnR.up (o.old hb) hb.size (Nat.le_refl _), d⟩
        | 8, h => exact h
        | n + 9, h => obtain ⟨g, e, l, o⟩ := h; exact ⟨g, e, l, o.old hb⟩
      case hstep2 =>
        intro vs w' i o hin ho hb hd
        match i, ho, hin with
        | 0, ho, _ =>
          simp only [List.getElem?_cons_zero, Option.some.injEq] at ho
          subst ho
          refine ⟨wanted_none rfl, ?_⟩
          have c0 := (HXG.out.old hb).c0
          have c1 := (HXG.out.old hb).c1
          have c2 := (HXG.out.old hb).c2
          have c3 := (HXG.out.old hb).c3
          generalize hK : (fun (a' : Act) (w'' : World) => ∃ v : Value, _ ∧ _ ∧ _) = K
          go_simp
          rw [← hK]
          exact ⟨_, rfl, rfl, Below.refl _ _⟩
        | 1, ho, _ =>
          simp only [List.getElem?_cons_succ, List.getElem?_cons_zero, Option.some.injEq] at ho
          subst ho
          refine ⟨wanted_none rfl, ?_⟩
          have e0 : Hid (vs 0 = .agg #[.int .i64 G.a, .int .i64 G.b, .int .i64 G.r, .int .i64 G.c]) := hd 0 (by kernel_rfl)
          generalize hK : (fun (a' : Act) (w'' : World) => ∃ v : Value, _ ∧ _ ∧ _) = K
          go_simp
          refine (calls_args (by rw [e0.out]) (toGeometry_any G _)).mono ?_
          rintro e w2 ⟨rfl, B⟩
          rw [← hK]
          exact ⟨_, rfl, rfl, B⟩
        | 2, ho, _ =>
          simp only [List.getElem?_cons_succ, List.getElem?_cons_zero, Option.some.injEq] at ho
          subst ho
          refine ⟨wanted_none rfl, ?_⟩
          have c0 := (HXX.out.old hb).c0
          have c1 := (HXX.out.old hb).c1
          generalize hK : (fun (a' : Act) (w'' : World) => ∃ v : Value, _ ∧ _ ∧ _) = K
          go_simp
          rw [← hK]
          exact ⟨_, rfl, rfl, Below.refl _ _⟩
        | 3, ho, _ =>
          simp only [List.getElem?_cons_succ, List.getElem?_cons_zero, Option.some.injEq] at ho
          subst ho
          refine ⟨wanted_none rfl, ?_⟩
          have c0 := (HXC.out.old hb).c0
          have c1 := (HXC.out.old hb).c1
          have c2 := (HXC.out.old hb).c2
          have c3 := (HXC.out.old hb).c3
          generalize hK : (fun (a' : Act) (w'' : World) => ∃ v : Value, _ ∧ _ ∧ _) = K
          go_simp
          rw [← hK]
          exact ⟨_, rfl, rfl, Below.refl _ _⟩
        | 4, ho, _ =>
          simp only [List.getElem?_cons_succ, List.getElem?_cons_zero, Option.some.injEq] at ho
          subst ho
          refine ⟨wanted_none rfl, ?_⟩
          have e0 : Hid (vs 3 = .agg #[.int .i64 C.k, .int .i64 C.b, .int .i64 C.r, .int .i64 C.c]) := hd 3 (by kernel_rfl)
          generalize hK : (fun (a' : Act) (w'' : World) => ∃ v : Value, _ ∧ _ ∧ _) = K
          go_simp
          refine (calls_args (by rw [e0.out]) (toCommand_any C _)).mono ?_
          rintro e w2 ⟨rfl, B⟩
          rw [← hK]
          exact ⟨_, rfl, rfl, B⟩
        | 5, ho, _ =>
          simp only [List.getElem?_cons_succ, List.getElem?_cons_zero, Option.some.injEq] at ho
          subst ho
          refine ⟨wanted_none rfl, ?_⟩
          have e1 : Hid (vs 1 = .agg #[.int .i64 G.a, .int .i64 G.b, .int .i64 G.r, .int .i64 G.c]) := hd 1 (by kernel_rfl)
          have ea : Hid (vs 2 = .agg #[.slice X.a X.n X.c, .int .i64 X.p]) := hd 2 (by kernel_rfl)
          have e4 : Hid (vs 4 = .agg #[.int .i64 C.k, .int .i64 C.b, .int .i64 C.r, .int .i64 C.c]) := hd 4 (by kernel_rfl)
          generalize hK : (fun (a' : Act) (w'' : World) => ∃ v : Value, _ ∧ _ ∧ _) = K
          go_simp
          refine (calls_args (by rw [e1.out, ea.out, e4.out]) (implRankAfter_any G X C _ (HOX.out.reads.old hb) (by rw [HNX.out]; exact HNM.out))).mono ?_
          rintro e w2 ⟨Lx, rfl, O, D1, B⟩
          rw [← hK]
          exact ⟨_, rfl, ⟨Lx, by rw [HDX.out, HOK.out], OwnR.mono O hb.size, D1.trans (by rw [HDX.out, HVD.out])⟩, B⟩
        | 6, ho, _ =>
          simp only [List.getElem?_cons_succ, List.getElem?_cons_zero, Option.some.injEq] at ho
          subst ho
          refine ⟨wanted_none rfl, ?_⟩
          obtain ⟨Lx, ev, OO, dd⟩ := hd 5 (by kernel_rfl)
          generalize hK : (fun (a' : Act) (w'' : World) => ∃ v : Value, _ ∧ _ ∧ _) = K
          go_simp
          rw [← hK]
          exact ⟨_, by simp [upd, ev], ⟨Lx, rfl, OO, dd⟩, Below.refl _ _⟩
        | 7, ho, _ =>
          simp only [List.getElem?_cons_succ, List.getElem?_cons_zero, Option.some.injEq] at ho
          subst ho
          refine ⟨wanted_none rfl, ?_⟩
          obtain ⟨Lx, ev, OO, dd⟩ := hd 6 (by kernel_rfl)
          generalize hK : (fun (a' : Act) (w'' : World) => ∃ v : Value, _ ∧ _ ∧ _) = K
          go_simp
          rw [← hK]
          exact ⟨_, by simp [upd, ev], ⟨Lx, rfl, OO, dd⟩, Below.refl _ _⟩
        | 8, ho, _ =>
          simp only [List.getElem?_cons_succ, List.getElem?_cons_zero, Option.some.injEq] at ho
          subst ho
          refine ⟨wanted_none rfl, ?_⟩
          obtain ⟨Lx, ev, OO, dd⟩ := hd 6 (by kernel_rfl)
          generalize hK : (fun (a' : Act) (w'' : World) => ∃ v : Value, _ ∧ _ ∧ _) = K
          go_simp
          rw [← hK]
          exact ⟨_, by simp [upd, ev], rfl, Below.refl _ _⟩
        | 9, ho, _ =>
          simp only [List.getElem?_cons_succ, List.getElem?_cons_zero, Option.some.injEq] at ho
          subst ho
          refine ⟨wanted_none rfl, ?_⟩
          generalize hK : (fun (a' : Act) (w'' : World) => ∃ v : Value, _ ∧ _ ∧ _) = K
          go_simp
          rw [← hK]
          exact ⟨_, rfl, ⟨_, rfl, hb.size, Blk.new _ _ _⟩, below_alloc _ _⟩
        | n + 10, _, hin => exact absurd hin (by omega)
      case hstore2 =>
        intro vs w' o ho hb hf
        simp only [List.getElem?_cons_succ, List.getElem?_cons_zero, Option.some.injEq] at ho
        subst ho
        refine ⟨wanted_none rfl, ?_⟩
        obtain ⟨Tx, et, _, _⟩ := hf 6 (by decide) (by decide)
        obtain ⟨Lx, er, O, D0⟩ := hf 7 (by decide) (by decide)
        obtain ⟨g, ep, hg, N⟩ := hf 9 (by decide) (by decide)
        have HSS := hid (rank_stored N O hg)
        have HET := hid et
        have HHB := hid hb
        have HHG := hid hg
        have HDD := hid D0
        have c0 := N.cell (j := 0) rfl
        have c1 := N.cell (j := 1) rfl
        have f0 := N.frozen 0
        have f1 := N.frozen 1
        clear et O N hb hg hf D0
        generalize hK : (fun (a' : Act) (w'' : World) => _ ∧ _ ∧ _) = K
        go_simp
        clear c0 c1 f0 f1
        rw [← hK]
        obtain ⟨s1, s2, s3, s4⟩ := HSS.out
        exact ⟨by simp [er, ep], ⟨Tx, HET.out⟩, Lx, g, ep, HHG.out, s1, s2, s4, HDD.out, HHB.out.trans s3⟩
      case hlate2 =>
        intro vs w' o ho hg
        simp only [List.getElem?_cons_succ, List.getElem?_cons_zero, Option.some.injEq] at ho
        subst ho
        refine ⟨wanted_none rfl, ?_⟩
        obtain ⟨⟨Tx, et⟩, hg2⟩ := hg
        have HG2 := hid hg2
        clear hg2
        generalize hK : (fun (a' : Act) (w'' : World) => _ ∧ _ ∧ _) = K
        go_simp
        rw [← hK]
        exact ⟨by simp [upd, et], ⟨Tx, by simpa [upd] using et⟩, by simpa [upd] using HG2.out⟩
      case hend2 =>
        intro vs w5 o ho hg hx
        simp only [List.getElem?_cons_succ, List.getElem?_cons_zero, Option.some.injEq] at ho
        subst ho
        refine ⟨wanted_none rfl, ?_⟩
        obtain ⟨_, Z, gZ, ep, hg1, N, O, hn, D0, hbb⟩ := hg
        generalize vs 8 = ub at hx ⊢
        subst hx
        generalize vs 9 = up at ep ⊢
        subst ep
        have HOZ_ := hid O
        have HVZ_ := hid N
        have hlZ := N.lt
        have HGZ : Hid (w4.heap.size ≤ gZ ∧ gZ < w5.heap.size) := hid ⟨hg1, hlZ⟩
        have HNZ := hid hn
        have HDZ := hid D0
        have HHB := hid hbb
        clear O N hg1 hn D0 hbb hlZ
        go_simp
        have HOY := hid (HOY.out.old HHB.out)
        have HVY := hid (HVY.out.old HHB.out)
        have HOX := hid (HOX.out.old HHB.out)
        have HXX := hid (HXX.out.old HHB.out)
        have HB1 := hid (below_step HB1.out HHB.out (Nat.le_refl _))
        have Sw5 : Hid (w4.heap.size ≤ w5.heap.size) := hid HHB.out.size
        clear HHB
        have HOZ := HOZ_
        have HVZ := HVZ_
        clear HOZ_ HVZ_
        have HSMZ : Hid (Z.es.length ≤ 1048576) := hid (by have h1 : Z.es = (rankAfter G R.d C).banks := congrArg RkD.banks (HDZ.out.trans HVD.out.symm); rw [h1, rankAfter_len]; exact HSM.out)
        have HZN : Hid (Z.n ≤ 1048576) := hid (by rw [HOZ.out.reads.len]; exact HSMZ.out)
        go_upto_region 8 with (fail)
        have HXG := hid (HXGw.out.old HB1.out)
        have HXR := hid (HXRw.out.old HB1.out)
        have HXC := hid (HXCw.out.old HB1.out)
        have HR := hid (HRw.out.old HB1.out)
        have cZ0 := HVZ.out.cell (j := 0) rfl
        have cZ1 := HVZ.out.cell (j := 1) rfl
        have cY0 := HVY.out.cell (j := 0) rfl
        have cY1 := HVY.out.cell (j := 1) rfl
        go_wp2_with fail
        clear cZ0 cZ1 cY0 cY1
        refine (eqRank_same Z Y _ HOZ.out.reads HOY.out.reads (by rw [HDZ.out, HDY.out]) HSMZ.out).mono ?_
        rintro e w6 ⟨rfl, B⟩
        have HOY := hid (HOY.out.old B)
        have HVY := hid (HVY.out.old B)
        have HOX := hid (HOX.out.old B)
        have HXX := hid (HXX.out.old B)
        have HOZ := hid (HOZ.out.old B)
        have HVZ := hid (HVZ.out.old B)
        have HB1 := hid (below_step HB1.out B (Nat.le_refl _))
        have Sw6 : Hid (w5.heap.size ≤ w6.heap.size) := hid B.size
        clear B
        go_upto_region 10 with (fail)
        have HXG := hid (HXGw.out.old HB1.out)
        have HXR := hid (HXRw.out.old HB1.out)
        have HXC := hid (HXCw.out.old HB1.out)
        have HR := hid (HRw.out.old HB1.out)
        refine growR_of 5 (fr := ?fr3)
          (fun i v w' => match i with
              | 0 => v = .agg #[.slice X.a X.n X.c, .int .i64 X.p]
              | 1 => v = .agg #[.slice R.a R.n R.c, .int .i64 R.p]
              | 2 => ∃ (A' : RankE) (U : Nat), v = .agg #[.slice A'.a A'.n A'.c, .int .i64 A'.p] ∧ OwnR w' w6.heap.size U A' ∧ A'.d = R.d ∧ A'.n = R.n
              | 3 => v = .bool true
              | _ => v = .bool false
            ) (by kernel_rfl) (by kernel_rfl) (by decide) (by kernel_rfl) ?hfr3 ⟨fun _ => undef, ?h03⟩ ?hF3 ?hstep3 ?hend3
        case hfr3 => intro vs; simp only [frOf, List.take_succ_cons, List.take_zero]; go_simp; exact rfl
        case h03 => rfl
        case hF3 =>
          intro i v w' w'' h hb
          match i, h with
          | 0, h => exact h
          | 1, h => exact h
          | 2, h => obtain ⟨A', U, e, o, d, m⟩ := h; exact ⟨A', U, e, o.old hb, d, m⟩
          | 3, h => exact h
          | n + 4, h => exact h
        case hstep3 =>
          intro vs w' i o hin ho hb hd
          match i, ho, hin with
          | 0, ho, _ =>
            simp only [List.getElem?_cons_zero, Option.some.injEq] at ho
            subst ho
            refine ⟨wanted_none rfl, ?_⟩
            have c0 := (HXX.out.old hb).c0
            have c1 := (HXX.out.old hb).c1
            generalize hK : (fun (a' : Act) (w'' : World) => ∃ v : Value, _ ∧ _ ∧ _) = K
            go_simp
            rw [← hK]
            exact ⟨_, rfl, rfl, Below.refl _ _⟩
          | 1, ho, _ =>
            simp only [List.getElem?_cons_succ, List.getElem?_cons_zero, Option.some.injEq] at ho
            subst ho
            refine ⟨wanted_none rfl, ?_⟩
            have c0 := (HXR.out.old hb).c0
            have c1 := (HXR.out.old hb).c1
            generalize hK : (fun (a' : Act) (w'' : World) => ∃ v : Value, _ ∧ _ ∧ _) = K
            go_simp
            rw [← hK]
            exact ⟨_, rfl, rfl, Below.refl _ _⟩
          | 2, ho, _ =>
            simp only [List.getElem?_cons_succ, List.getElem?_cons_zero, Option.some.injEq] at ho
            subst ho
            refine ⟨wanted_none rfl, ?_⟩
            have e0 : Hid (vs 1 = .agg #[.slice R.a R.n R.c, .int .i64 R.p]) := hd 1 (by kernel_rfl)
            generalize hK : (fun (a' : Act) (w'' : World) => ∃ v : Value, _ ∧ _ ∧ _) = K
            go_simp
            refine (calls_args (by rw [e0.out]) (toRank_any R _ (HR.out.old hb) HSM.out)).mono ?_
            rintro e w2 ⟨A', rfl, O, D0, N0, B⟩
            rw [← hK]
            exact ⟨_, rfl, ⟨A', _, rfl, OwnR.mono O hb.size, D0, N0⟩, B⟩
          | 3, ho, _ =>
            simp only [List.getElem?_cons_succ, List.getElem?_cons_zero, Option.some.injEq] at ho
            subst ho
            refine ⟨wanted_none rfl, ?_⟩
            have e0 : Hid (vs 0 = .agg #[.slice X.a X.n X.c, .int .i64 X.p]) := hd 0 (by kernel_rfl)
            obtain ⟨A', U, ea', O, D0, N0⟩ := hd 2 (by kernel_rfl)
            have ea := hid ea'
            clear ea'
            generalize hK : (fun (a' : Act) (w'' : World) => ∃ v : Value, _ ∧ _ ∧ _) = K
            go_simp
            refine (calls_args (by rw [e0.out, ea.out]) (eqRank_same X A' _ (HOX.out.reads.old hb) O.reads (by rw [HDX.out, D0]) HSMX.out)).mono ?_
            rintro e w2 ⟨rfl, B⟩
            rw [← hK]
            exact ⟨_, rfl, rfl, B⟩
          | 4, ho, _ =>
            simp only [List.getElem?_cons_succ, List.getElem?_cons_zero, Option.some.injEq] at ho
            subst ho
            refine ⟨wanted_none rfl, ?_⟩
            have e3 : vs 3 = .bool true := hd 3 (by kernel_rfl)
            generalize hK : (fun (a' : Act) (w'' : World) => ∃ v : Value, _ ∧ _ ∧ _) = K
            go_simp
            rw [← hK]
            exact ⟨_, by simp [upd, e3], rfl, Below.refl _ _⟩
          | n + 5, _, hin => exact absurd hin (by omega)
        case hend3 =>
          intro vs w7 hb hf
          have er4 : vs 4 = .bool false := hf 4 (by decide)
          have HOY := hid (HOY.out.old hb)
          have HVY := hid (HVY.out.old hb)
          have HOX := hid (HOX.out.old hb)
          have HXX := hid (HXX.out.old hb)
          have HOZ := hid (HOZ.out.old hb)
          have HVZ := hid (HVZ.out.old hb)
          have HB1 := hid (below_step HB1.out hb (Nat.le_refl _))
          have Sw7 : Hid (w6.heap.size ≤ w7.heap.size) := hid hb.size
          clear hb hf
          generalize vs 4 = ur4 at er4 ⊢
          subst er4
          simp only [List.drop_succ_cons, List.drop_nil]
          refine wpTail_nil ?_
          go_upto_region 13 with (fail)
          have HXG := hid (HXGw.out.old HB1.out)
          have HXR := hid (HXRw.out.old HB1.out)
          have HXC := hid (HXCw.out.old HB1.out)
          have HR := hid (HRw.out.old HB1.out)
          have cX0 := HXX.out.c0
          have cX1 := HXX.out.c1
          go_wp2_with fail
          clear cX0 cX1
          refine (markRank_any X _ _ 1 _ HOX.out HSMX.out (by decide) (by decide)).mono ?_
          rintro e w8 ⟨rfl, _, KM⟩
          have KM := hid KM
          have HOY2 := hid (HOY.out.keeps KM.out (fun b hb hb' hS => by have h1 := HOX.out.in_ hS; have q0 := Sw2.out; have q1 := Sw3.out; have q2 := Sw4.out; have q3 := Sw5.out; have q4 := Sw6.out; have q5 := Sw7.out; omega))
          have HVY2 := hid (HVY.out.keeps KM.out (fun hS => by have h1 := HOX.out.in_ hS; have h2 := HGY.out; have q0 := Sw2.out; have q1 := Sw3.out; have q2 := Sw4.out; have q3 := Sw5.out; have q4 := Sw6.out; have q5 := Sw7.out; omega))
          have HOZ2 := hid (HOZ.out.keeps KM.out (fun b hb hb' hS => by have h1 := HOX.out.in_ hS; have q0 := Sw2.out; have q1 := Sw3.out; have q2 := Sw4.out; have q3 := Sw5.out; have q4 := Sw6.out; have q5 := Sw7.out; omega))
          have HVZ2 := hid (HVZ.out.keeps KM.out (fun hS => by have h1 := HOX.out.in_ hS; have h2 := HGZ.out; have q0 := Sw2.out; have q1 := Sw3.out; have q2 := Sw4.out; have q3 := Sw5.out; have q4 := Sw6.out; have q5 := Sw7.out; omega))
          have HB1 := hid (HB1.out.trans (KM.out.below HB1.out.size (fun q hq hS => by have h1 := HOX.out.in_ hS; have q0 := Sw2.out; have q1 := Sw3.out; have q2 := Sw4.out; have q3 := Sw5.out; have q4 := Sw6.out; have q5 := Sw7.out; omega)))
          have Sw8 : Hid (w7.heap.size ≤ w8.heap.size) := hid KM.out.size
          clear KM HOX HXX
          clear HOY HVY
          have HOY := HOY2
          have HVY := HVY2
          clear HOY2 HVY2
          clear HOZ HVZ
          have HOZ := HOZ2
          have HVZ := HVZ2
          clear HOZ2 HVZ2
          have hkm : (0 : Int) ≤ 1 + 2 * (X.n : Int) := by omega
          generalize (1 : Int) + 2 * (X.n : Int) = km at hkm
          have dkm : decide (km < 0) = false := by simp; omega
          go_upto_region 14 with (fail)
          have HXG := hid (HXGw.out.old HB1.out)
          have HXR := hid (HXRw.out.old HB1.out)
          have HXC := hid (HXCw.out.old HB1.out)
          have HR := hid (HRw.out.old HB1.out)
          have cZ0 := HVZ.out.cell (j := 0) rfl
          have cZ1 := HVZ.out.cell (j := 1) rfl
          have cY0 := HVY.out.cell (j := 0) rfl
          have cY1 := HVY.out.cell (j := 1) rfl
          go_wp2_with fail
          clear cZ0 cZ1 cY0 cY1
          refine (eqRank_same Z Y _ HOZ.out.reads HOY.out.reads (by rw [HDZ.out, HDY.out]) HSMZ.out).mono ?_
          rintro e w9 ⟨rfl, B⟩
          have HOY := hid (HOY.out.old B)
          have HVY := hid (HVY.out.old B)
          have HOZ := hid (HOZ.out.old B)
          have HVZ := hid (HVZ.out.old B)
          have HB1 := hid (below_step HB1.out B (Nat.le_refl _))
          have Sw9 : Hid (w8.heap.size ≤ w9.heap.size) := hid B.size
          clear B
          go_upto_region 17 with (fail)
          have HXG := hid (HXGw.out.old HB1.out)
          have HXR := hid (HXRw.out.old HB1.out)
          have HXC := hid (HXCw.out.old HB1.out)
          have HR := hid (HRw.out.old HB1.out)
          have cZ0 := HVZ.out.cell (j := 0) rfl
          have cZ1 := HVZ.out.cell (j := 1) rfl
          go_wp2_with fail
          clear cZ0 cZ1
          refine (markRank_any Z _ _ 1 _ HOZ.out HSMZ.out (by decide) (by decide)).mono ?_
          rintro e w10 ⟨rfl, OM, KM⟩
          have KM := hid KM
          have HOM_ := hid OM
          clear OM
          have HOY2 := hid (HOY.out.keeps KM.out (fun b hb hb' hS => by have h1 := HOZ.out.in_ hS; have q0 := Sw2.out; have q1 := Sw3.out; have q2 := Sw4.out; have q3 := Sw5.out; have q4 := Sw6.out; have q5 := Sw7.out; have q6 := Sw8.out; have q7 := Sw9.out; omega))
          have HVY2 := hid (HVY.out.keeps KM.out (fun hS => by have h1 := HOZ.out.in_ hS; have h2 := HGY.out; have q0 := Sw2.out; have q1 := Sw3.out; have q2 := Sw4.out; have q3 := Sw5.out; have q4 := Sw6.out; have q5 := Sw7.out; have q6 := Sw8.out; have q7 := Sw9.out; omega))
          have HVZ2 := hid (HVZ.out.keeps KM.out HNZ.out)
          have HB1 := hid (HB1.out.trans (KM.out.below HB1.out.size (fun q hq hS => by have h1 := HOZ.out.in_ hS; have q0 := Sw2.out; have q1 := Sw3.out; have q2 := Sw4.out; have q3 := Sw5.out; have q4 := Sw6.out; have q5 := Sw7.out; have q6 := Sw8.out; have q7 := Sw9.out; omega)))
          have Sw10 : Hid (w9.heap.size ≤ w10.heap.size) := hid KM.out.size
          clear KM HOY HVY HVZ HOZ
          have HOY := HOY2
          have HVY := HVY2
          have HVZ := HVZ2
          have HOM := HOM_
          clear HOY2 HVY2 HVZ2 HOM_
          obtain ⟨qm, hqm⟩ : ∃ qm : Int, (1 : Int) + 2 * (Z.n : Int) = qm := ⟨_, rfl⟩
          have hq0 : (0 : Int) ≤ qm := by omega
          rw [hqm]
          have HQM := hid hqm
          clear hqm
          have dq : decide (qm < 0) = false := by simp; omega
          have dqn : (qm != qm) = false := by simp
          go_upto_region 19 with (fail)
          have HXG := hid (HXGw.out.old HB1.out)
          have HXR := hid (HXRw.out.old HB1.out)
          have HXC := hid (HXCw.out.old HB1.out)
          have HR := hid (HRw.out.old HB1.out)
          have cZ0 := HVZ.out.cell (j := 0) rfl
          have cZ1 := HVZ.out.cell (j := 1) rfl
          go_wp2_with fail
          clear cZ0 cZ1
          refine (heldRank_any (⟨Z.a, Z.n, Z.c, mkB 1 Z.n, Z.p⟩ : RankE) 1 _ HOM.out.reads rfl HZN.out (by decide) (by decide)).mono ?_
          rintro e w11 ⟨rfl, B⟩
          rw [show (1 : Int) + 2 * ((⟨Z.a, Z.n, Z.c, mkB 1 Z.n, Z.p⟩ : RankE).n : Int) = qm from HQM.out]
          have HOY := hid (HOY.out.old B)
          have HVY := hid (HVY.out.old B)
          have HOM := hid (HOM.out.old B)
          have HVZ := hid (HVZ.out.old B)
          have HB1 := hid (below_step HB1.out B (Nat.le_refl _))
          have Sw11 : Hid (w10.heap.size ≤ w11.heap.size) := hid B.size
          clear B
          go_upto_region 24 with (fail)
          have HXG := hid (HXGw.out.old HB1.out)
          have HXR := hid (HXRw.out.old HB1.out)
          have HXC := hid (HXCw.out.old HB1.out)
          have HR := hid (HRw.out.old HB1.out)
          refine grow3_of 11 9 (.bool okv) (fr := ?fr4)
            (fun i v w' => match i with
                | 0 => v = .agg #[.int .i64 G.a, .int .i64 G.b, .int .i64 G.r, .int .i64 G.c]
                | 1 => v = .agg #[.int .i64 G.a, .int .i64 G.b, .int .i64 G.r, .int .i64 G.c]
                | 2 => v = .agg #[.slice R.a R.n R.c, .int .i64 R.p]
                | 3 => ∃ (A' : RankE) (U : Nat), v = .agg #[.slice A'.a A'.n A'.c, .int .i64 A'.p] ∧ OwnR w' w11.heap.size U A' ∧ A'.d = R.d ∧ A'.n = R.n
                | 4 => v = .agg #[.int .i64 C.k, .int .i64 C.b, .int .i64 C.r, .int .i64 C.c]
                | 5 => v = .agg #[.int .i64 C.k, .int .i64 C.b, .int .i64 C.r, .int .i64 C.c]
                | 6 => ∃ Lx : RankE, v = .tuple #[.agg #[.slice Lx.a Lx.n Lx.c, .int .i64 Lx.p], .bool okv] ∧ OwnR w' w11.heap.size w'.heap.size Lx ∧ Lx.d = vd
                | 7 => ∃ Lx : RankE, v = .tuple #[.agg #[.slice Lx.a Lx.n Lx.c, .int .i64 Lx.p], .bool okv] ∧ OwnR w' w11.heap.size w'.heap.size Lx ∧ Lx.d = vd
                | 8 => ∃ Lx : RankE, v = .agg #[.slice Lx.a Lx.n Lx.c, .int .i64 Lx.p] ∧ OwnR w' w11.heap.size w'.heap.size Lx ∧ Lx.d = vd
                | 9 => v = .bool okv
                | _ => ∃ g : Nat, v = .pointer (some ⟨g, 0, none⟩) ∧ w11.heap.size ≤ g ∧ Blk w' g 41 [.slice none 0 0, .int .i64 0])
            (fun vs w' => (∃ Tx : RankE, vs 7 = .tuple #[.agg #[.slice Tx.a Tx.n Tx.c, .int .i64 Tx.p], .bool okv]) ∧ ∃ (Lx : RankE) (g : Nat), vs 10 = .pointer (some ⟨g, 0, none⟩) ∧ w11.heap.size ≤ g ∧ Blk w' g 41 [.slice Lx.a Lx.n Lx.c, .int .i64 Lx.p] ∧ OwnR w' w11.heap.size w'.heap.size Lx ∧ ¬ blkR Lx g ∧ Lx.d = vd ∧ Below w11.heap.size w11 w') (by kernel_rfl) (by kernel_rfl) rfl (by decide) ?hlast4 ?hlbst4 ?hfr4 ⟨fun _ => undef, ?h04⟩ ?hF4 ?hX4 ?hstep4 ?hstore4 ?hlate4 ?hend4
          case hfr4 => intro vs; simp only [frOf, List.take_succ_cons, List.take_zero]; go_simp; exact rfl
          case h04 => rfl
          case hX4 => exact fun v w h => h
          case hlast4 =>
            intro o ho i hi hne
            simp only [List.getElem?_cons_succ, List.getElem?_cons_zero, Option.some.injEq] at ho
            subst ho
            match i, hi, hne with
            | 0, _, _ => show (_ : Bool) = true; kernel_rfl
            | 1, _, _ => show (_ : Bool) = true; kernel_rfl
            | 2, _, _ => show (_ : Bool) = true; kernel_rfl
            | 3, _, _ => show (_ : Bool) = true; kernel_rfl
            | 4, _, _ => show (_ : Bool) = true; kernel_rfl
            | 5, _, _ => show (_ : Bool) = true; kernel_rfl
            | 6, _, _ => show (_ : Bool) = true; kernel_rfl
            | 7, _, _ => show (_ : Bool) = true; kernel_rfl
            | 8, _, _ => show (_ : Bool) = true; kernel_rfl
            | 9, _, hne => exact absurd rfl hne
            | 10, _, _ => show (_ : Bool) = true; kernel_rfl
          case hlbst4 =>
            intro o ho i hi
            simp only [List.getElem?_cons_succ, List.getElem?_cons_zero, Option.some.injEq] at ho
            subst ho
            match i, hi with
            | 0, _ => show (_ : Bool) = true; kernel_rfl
            | 1, _ => show (_ : Bool) = true; kernel_rfl
            | 2, _ => show (_ : Bool) = true; kernel_rfl
            | 3, _ => show (_ : Bool) = true; kernel_rfl
            | 4, _ => show (_ : Bool) = true; kernel_rfl
            | 5, _ => show (_ : Bool) = true; kernel_rfl
            | 6, _ => show (_ : Bool) = true; kernel_rfl
            | 7, _ => show (_ : Bool) = true; kernel_rfl
            | 8, _ => show (_ : Bool) = true; kernel_rfl
            | 9, _ => show (_ : Bool) = true; kernel_rfl
            | 10, _ => show (_ : Bool) = true; kernel_rfl
            | 11, _ => show (_ : Bool) = true; kernel_rfl
          case hF4 =>
            intro i v w' w'' h hb
            match i, h with
            | 0, h => exact h
            | 1, h => exact h
            | 2, h => exact h
            | 3, h => obtain ⟨A', U, e, o, d, m⟩ := h; exact ⟨A', U, e, o.old hb, d, m⟩
            | 4, h => exact h
            | 5, h => exact h
            | 6, h => obtain ⟨Lx, e, o, d⟩ := h; exact ⟨Lx, e, OwnR.up (o.old hb) hb.size (Nat.le_refl _), d⟩
            | 7, h => obtain ⟨Lx, e, o, d⟩ := h; exact ⟨Lx, e, OwnR.up (o.old hb) hb.size (Nat.le_refl _), d⟩
            | 8, h => obtain ⟨Lx, e, o, d⟩ := h; exact ⟨Lx, e, OwnR.up (o.old hb) hb.size (Nat.le_refl _), d⟩
            | 9, h => exact h
            | n + 10, h => obtain ⟨g, e, l, o⟩ := h; exact ⟨g, e, l, o.old hb⟩
          case hstep4 =>
            intro vs w' i o hin ho hb hd
            match i, ho, hin with
            | 0, ho, _ =>
              simp only [List.getElem?_cons_zero, Option.some.injEq] at ho
              subst ho
              refine ⟨wanted_none rfl, ?_⟩
              have c0 := (HXG.out.old hb).c0
              have c1 := (HXG.out.old hb).c1
              have c2 := (HXG.out.old hb).c2
              have c3 := (HXG.out.old hb).c3
              generalize hK : (fun (a' : Act) (w'' : World) => ∃ v : Value, _ ∧ _ ∧ _) = K
              go_simp
              rw [← hK]
              exact ⟨_, rfl, rfl, Below.refl _ _⟩
            | 1, ho, _ =>
              simp only [List.getElem?_cons_succ, List.getElem?_cons_zero, Option.some.injEq] at ho
              subst ho
              refine ⟨wanted_none rfl, ?_⟩
              have e0 : Hid (vs 0 = .agg #[.int .i64 G.a, .int .i64 G.b, .int .i64 G.r, .int .i64 G.c]) := hd 0 (by kernel_rfl)
              generalize hK : (fun (a' : Act) (w'' : World) => ∃ v : Value, _ ∧ _ ∧ _) = K
              go_simp
              refine (calls_args (by rw [e0.out]) (toGeometry_any G _)).mono ?_
              rintro e w2 ⟨rfl, B⟩
              rw [← hK]
              exact ⟨_, rfl, rfl, B⟩
            | 2, ho, _ =>
              simp only [List.getElem?_cons_succ, List.getElem?_cons_zero, Option.some.injEq] at ho
              subst ho
              refine ⟨wanted_none rfl, ?_⟩
              have c0 := (HXR.out.old hb).c0
              have c1 := (HXR.out.old hb).c1
              generalize hK : (fun (a' : Act) (w'' : World) => ∃ v : Value, _ ∧ _ ∧ _) = K
              go_simp
              rw [← hK]
              exact ⟨_, rfl, rfl, Below.refl _ _⟩
            | 3, ho, _ =>
              simp only [List.getElem?_cons_succ, List.getElem?_cons_zero, Option.some.injEq] at ho
              subst ho
              refine ⟨wanted_none rfl, ?_⟩
              have e0 : Hid (vs 2 = .agg #[.slice R.a R.n R.c, .int .i64 R.p]) := hd 2 (by kernel_rfl)
              generalize hK : (fun (a' : Act) (w'' : World) => ∃ v : Value, _ ∧ _ ∧ _) = K
              go_simp
              refine (calls_args (by rw [e0.out]) (toRank_any R _ (HR.out.old hb) HSM.out)).mono ?_
              rintro e w2 ⟨A', rfl, O, D0, N0, B⟩
              rw [← hK]
              exact ⟨_, rfl, ⟨A', _, rfl, OwnR.mono O hb.size, D0, N0⟩, B⟩
            | 4, ho, _ =>
              simp only [List.getElem?_cons_succ, List.getElem?_cons_zero, Option.some.injEq] at ho
              subst ho
              refine ⟨wanted_none rfl, ?_⟩
              have c0 := (HXC.out.old hb).c0
              have c1 := (HXC.out.old hb).c1
              have c2 := (HXC.out.old hb).c2
              have c3 := (HXC.out.old hb).c3
              generalize hK : (fun (a' : Act) (w'' : World) => ∃ v : Value, _ ∧ _ ∧ _) = K
              go_simp
              rw [← hK]
              exact ⟨_, rfl, rfl, Below.refl _ _⟩
            | 5, ho, _ =>
              simp only [List.getElem?_cons_succ, List.getElem?_cons_zero, Option.some.injEq] at ho
              subst ho
              refine ⟨wanted_none rfl, ?_⟩
              have e0 : Hid (vs 4 = .agg #[.int .i64 C.k, .int .i64 C.b, .int .i64 C.r, .int .i64 C.c]) := hd 4 (by kernel_rfl)
              generalize hK : (fun (a' : Act) (w'' : World) => ∃ v : Value, _ ∧ _ ∧ _) = K
              go_simp
              refine (calls_args (by rw [e0.out]) (toCommand_any C _)).mono ?_
              rintro e w2 ⟨rfl, B⟩
              rw [← hK]
              exact ⟨_, rfl, rfl, B⟩
            | 6, ho, _ =>
              simp only [List.getElem?_cons_succ, List.getElem?_cons_zero, Option.some.injEq] at ho
              subst ho
              refine ⟨wanted_none rfl, ?_⟩
              have e1 : Hid (vs 1 = .agg #[.int .i64 G.a, .int .i64 G.b, .int .i64 G.r, .int .i64 G.c]) := hd 1 (by kernel_rfl)
              obtain ⟨A', U, ea', O', D0, N0⟩ := hd 3 (by kernel_rfl)
              have ea := hid ea'
              clear ea'
              have e5 : Hid (vs 5 = .agg #[.int .i64 C.k, .int .i64 C.b, .int .i64 C.r, .int .i64 C.c]) := hd 5 (by kernel_rfl)
              generalize hK : (fun (a' : Act) (w'' : World) => ∃ v : Value, _ ∧ _ ∧ _) = K
              go_simp
              refine (calls_args (by rw [e1.out, ea.out, e5.out]) (implRankAfter_any G A' C _ (O'.reads) (by rw [N0]; exact HNM.out))).mono ?_
              rintro e w2 ⟨Lx, rfl, O, D1, B⟩
              rw [← hK]
              exact ⟨_, rfl, ⟨Lx, by rw [D0, HOK.out], OwnR.mono O hb.size, D1.trans (by rw [D0, HVD.out])⟩, B⟩
            | 7, ho, _ =>
              simp only [List.getElem?_cons_succ, List.getElem?_cons_zero, Option.some.injEq] at ho
              subst ho
              refine ⟨wanted_none rfl, ?_⟩
              obtain ⟨Lx, ev, OO, dd⟩ := hd 6 (by kernel_rfl)
              generalize hK : (fun (a' : Act) (w'' : World) => ∃ v : Value, _ ∧ _ ∧ _) = K
              go_simp
              rw [← hK]
              exact ⟨_, by simp [upd, ev], ⟨Lx, rfl, OO, dd⟩, Below.refl _ _⟩
            | 8, ho, _ =>
              simp only [List.getElem?_cons_succ, List.getElem?_cons_zero, Option.some.injEq] at ho
              subst ho
              refine ⟨wanted_none rfl, ?_⟩
              obtain ⟨Lx, ev, OO, dd⟩ := hd 7 (by kernel_rfl)
              generalize hK : (fun (a' : Act) (w'' : World) => ∃ v : Value, _ ∧ _ ∧ _) = K
              go_simp
              rw [← hK]
              exact ⟨_, by simp [upd, ev], ⟨Lx, rfl, OO, dd⟩, Below.refl _ _⟩
            | 9, ho, _ =>
              simp only [List.getElem?_cons_succ, List.getElem?_cons_zero, Option.some.injEq] at ho
              subst ho
              refine ⟨wanted_none rfl, ?_⟩
              obtain ⟨Lx, ev, OO, dd⟩ := hd 7 (by kernel_rfl)
              generalize hK : (fun (a' : Act) (w'' : World) => ∃ v : Value, _ ∧ _ ∧ _) = K
              go_simp
              rw [← hK]
              exact ⟨_, by simp [upd, ev], rfl, Below.refl _ _⟩
            | 10, ho, _ =>
              simp only [List.getElem?_cons_succ, List.getElem?_cons_zero, Option.some.injEq] at ho
              subst ho
              refine ⟨wanted_none rfl, ?_⟩
              generalize hK : (fun (a' : Act) (w'' : World) => ∃ v : Value, _ ∧ _ ∧ _) = K
              go_simp
              rw [← hK]
              exact ⟨_, rfl, ⟨_, rfl, hb.size, Blk.new _ _ _⟩, below_alloc _ _⟩
            | n + 11, _, hin => exact absurd hin (by omega)
          case hstore4 =>
            intro vs w' o ho hb hf
            simp only [List.getElem?_cons_succ, List.getElem?_cons_zero, Option.some.injEq] at ho
            subst ho
            refine ⟨wanted_none rfl, ?_⟩
            obtain ⟨Tx, et, _, _⟩ := hf 7 (by decide) (by decide)
            obtain ⟨Lx, er, O, D0⟩ := hf 8 (by decide) (by decide)
            obtain ⟨g, ep, hg, N⟩ := hf 10 (by decide) (by decide)
            have HSS := hid (rank_stored N O hg)
            have HET := hid et
            have HHB := hid hb
            have HHG := hid hg
            have HDD := hid D0
            have c0 := N.cell (j := 0) rfl
            have c1 := N.cell (j := 1) rfl
            have f0 := N.frozen 0
            have f1 := N.frozen 1
            clear et O N hb hg hf D0
            generalize hK : (fun (a' : Act) (w'' : World) => _ ∧ _ ∧ _) = K
            go_simp
            clear c0 c1 f0 f1
            rw [← hK]
            obtain ⟨s1, s2, s3, s4⟩ := HSS.out
            exact ⟨by simp [er, ep], ⟨Tx, HET.out⟩, Lx, g, ep, HHG.out, s1, s2, s4, HDD.out, HHB.out.trans s3⟩
          case hlate4 =>
            intro vs w' o ho hg
            simp only [List.getElem?_cons_succ, List.getElem?_cons_zero, Option.some.injEq] at ho
            subst ho
            refine ⟨wanted_none rfl, ?_⟩
            obtain ⟨⟨Tx, et⟩, hg2⟩ := hg
            have HG2 := hid hg2
            clear hg2
            generalize hK : (fun (a' : Act) (w'' : World) => _ ∧ _ ∧ _) = K
            go_simp
            rw [← hK]
            exact ⟨by simp [upd, et], ⟨Tx, by simpa [upd] using et⟩, by simpa [upd] using HG2.out⟩
          case hend4 =>
            intro vs w12 o ho hg hx
            simp only [List.getElem?_cons_succ, List.getElem?_cons_zero, Option.some.injEq] at ho
            subst ho
            refine ⟨wanted_none rfl, ?_⟩
            obtain ⟨_, V, gV, ep, hg1, N, O, hn, D0, hbb⟩ := hg
            generalize vs 9 = ub at hx ⊢
            subst hx
            generalize vs 10 = up at ep ⊢
            subst ep
            have HOV_ := hid O
            have HVV_ := hid N
            have hlV := N.lt
            have HGV : Hid (w11.heap.size ≤ gV ∧ gV < w12.heap.size) := hid ⟨hg1, hlV⟩
            have HNV := hid hn
            have HDV := hid D0
            have HHB := hid hbb
            clear O N hg1 hn D0 hbb hlV
            go_simp
            have HOY := hid (HOY.out.old HHB.out)
            have HVY := hid (HVY.out.old HHB.out)
            have HOM := hid (HOM.out.old HHB.out)
            have HVZ := hid (HVZ.out.old HHB.out)
            have HB1 := hid (below_step HB1.out HHB.out (Nat.le_refl _))
            have Sw12 : Hid (w11.heap.size ≤ w12.heap.size) := hid HHB.out.size
            clear HHB
            have HOV := HOV_
            have HVV := HVV_
            clear HOV_ HVV_
            go_upto_region 25 with (fail)
            have HXG := hid (HXGw.out.old HB1.out)
            have HXR := hid (HXRw.out.old HB1.out)
            have HXC := hid (HXCw.out.old HB1.out)
            have HR := hid (HRw.out.old HB1.out)
            have HSMV : Hid (V.es.length ≤ 1048576) := hid (by have h1 : V.es = (rankAfter G R.d C).banks := congrArg RkD.banks (HDV.out.trans HVD.out.symm); rw [h1, rankAfter_len]; exact HSM.out)
            have cV0 := HVV.out.cell (j := 0) rfl
            have cV1 := HVV.out.cell (j := 1) rfl
            have cY0 := HVY.out.cell (j := 0) rfl
            have cY1 := HVY.out.cell (j := 1) rfl
            go_wp2_with fail
            clear cV0 cV1 cY0 cY1
            refine (eqRank_same V Y _ HOV.out.reads HOY.out.reads (by rw [HDV.out, HDY.out]) HSMV.out).mono ?_
            rintro e w13 ⟨rfl, B⟩
            have HOY := hid (HOY.out.old B)
            have HVY := hid (HVY.out.old B)
            have HOM := hid (HOM.out.old B)
            have HVZ := hid (HVZ.out.old B)
            have HOV := hid (HOV.out.old B)
            have HVV := hid (HVV.out.old B)
            have HB1 := hid (below_step HB1.out B (Nat.le_refl _))
            have Sw13 : Hid (w12.heap.size ≤ w13.heap.size) := hid B.size
            clear B
            go_upto_region 28 with (fail)
            have HXG := hid (HXGw.out.old HB1.out)
            have HXR := hid (HXRw.out.old HB1.out)
            have HXC := hid (HXCw.out.old HB1.out)
            have HR := hid (HRw.out.old HB1.out)
            have cZ0 := HVZ.out.cell (j := 0) rfl
            have cZ1 := HVZ.out.cell (j := 1) rfl
            go_wp2_with fail
            clear cZ0 cZ1
            refine (heldRank_any (⟨Z.a, Z.n, Z.c, mkB 1 Z.n, Z.p⟩ : RankE) 1 _ HOM.out.reads rfl HZN.out (by decide) (by decide)).mono ?_
            rintro e w14 ⟨rfl, B⟩
            rw [show (1 : Int) + 2 * ((⟨Z.a, Z.n, Z.c, mkB 1 Z.n, Z.p⟩ : RankE).n : Int) = qm from HQM.out]
            have HOY := hid (HOY.out.old B)
            have HVY := hid (HVY.out.old B)
            have HOM := hid (HOM.out.old B)
            have HVZ := hid (HVZ.out.old B)
            have HOV := hid (HOV.out.old B)
            have HVV := hid (HVV.out.old B)
            have HB1 := hid (below_step HB1.out B (Nat.le_refl _))
            have Sw14 : Hid (w13.heap.size ≤ w14.heap.size) := hid B.size
            clear B
            go_wp2_with fail
            go_ret
            exact ⟨rfl, below_step HB.out HB1.out (Nat.le_refl _)⟩
  · have HA := hid hR
    have HT := hid (szT_no (t := R.n) (left := 1048576) (by omega))
    clear hR
    go_enter Try.func6, Try.ntmps6
    go_wp2_with fail
    refine (szRank_any R _ _ HA.out.max (by omega) (by omega)).mono ?_
    rintro e w1 ⟨rfl, B1⟩
    rw [HT.out]
    go_wp2_with fail
    go_ret
    exact ⟨rfl, below_step (below_alloc3 _ _ _ _) B1 (Nat.le_refl _)⟩

set_option maxRecDepth 100000 in
theorem lifted (os : Os) (started : os.Started) (H : Type) (enc : TypeId × Value → H) :
    ReturnsInHanded {} Try.checked os 6 .any (Rows.fnExactRankAfterSpec.pre6 enc Try.prog Try.f6 Rows.fnExactRankAfterRow.domain false) (Rows.fnExactRankAfterSpec.post enc Try.prog Try.f6 false true false false) := by
  refine returnsInHanded_of_change (C := Try.checked) own started (by kernel_rfl) Try.func6
    (ChangeSpec.witness6 (enc := enc) (C := Try.checked) false ⟨#[], #[.agg #[.int .i64 0, .int .i64 0, .int .i64 0, .int .i64 0], .agg #[.slice none 0 0, .int .i64 0], .agg #[.int .i64 0, .int .i64 0, .int .i64 0, .int .i64 0]], []⟩ 8 (by kernel_rfl) (by kernel_rfl) (by kernel_rfl) (by kernel_rfl)) ?_
  intro W base args ds gs before hval0 hW hcnd _
  have hval : ∀ (j : Nat) t v, Try.f6.params[j]? = some t → args[j]? = some v → Value.okWide Try.prog W .any base t v := hval0
  have hW' := hW
  obtain ⟨p, q, hA0, hV, rfl, hfz, hnd⟩ := hW
  have hA : DataW.TrodAll enc Try.prog W 0 (fun _ => true) true Try.f6.params.toList args.toList ds p := hA0
  rw [Try.params6] at hA hval
  obtain ⟨v0, vs0, d0, ds0, p0, q0, hargs, rfl, rfl, h0, r0⟩ := trodAll_cons hA
  obtain ⟨v1, vs1, d1, ds1, p1, q1, rfl, rfl, rfl, h1, r1⟩ := trodAll_cons r0
  obtain ⟨v2, vs2, d2, ds2, p2, q2, rfl, rfl, rfl, h2, r2⟩ := trodAll_cons r1
  obtain ⟨rfl, rfl, rfl⟩ := trodAll_nil r2
  obtain rfl : args = #[v0, v1, v2] := by cases args; simp_all
  obtain ⟨rfl, rfl⟩ := trodVars_none hV
  have k0 := h0
  have lt0 : ∀ x ∈ p0, x.block < W.heap.size := by obtain ⟨m, hm⟩ := k0; exact DataW.trod_lt m _ _ _ hm
  obtain ⟨G, rfl⟩ := open_geo (hval 0 48 v0 rfl rfl) h0
  have k1 := h1
  have lt1 : ∀ x ∈ p1, x.block < W.heap.size := by obtain ⟨m, hm⟩ := k1; exact DataW.trod_lt m _ _ _ hm
  obtain ⟨R, rfl, hArgR⟩ := open_rank (hval 1 73 v1 rfl rfl) h1
  have k2 := h2
  have lt2 : ∀ x ∈ p2, x.block < W.heap.size := by obtain ⟨m, hm⟩ := k2; exact DataW.trod_lt m _ _ _ hm
  obtain ⟨C, rfl⟩ := open_cmd (hval 2 50 v2 rfl rfl) h2
  clear hA0 hval0
  refine (walk W G R hArgR C).mono fun e W' ⟨he, bel⟩ => ?_
  subst he
  exact ⟨_, rfl, _, _, _, [], _, [], hW', trodAll_mk1 (shut_bool Try.underlying4 _), (trodAll_cons_mk (Below.trod laidOut (by kernel_rfl) (of_decide_eq_true (by kernel_rfl)) k0 bel lt0) (trodAll_cons_mk (Below.trod laidOut (by kernel_rfl) (of_decide_eq_true (by kernel_rfl)) k1 bel lt1) (trodAll_cons_mk (Below.trod laidOut (by kernel_rfl) (of_decide_eq_true (by kernel_rfl)) k2 bel lt2) trodAll_mk0))), rfl, bel.frame _, fun h => by cases h⟩

theorem own_facts : joinedFacts Try.prog 6 Try.f6 Rows.fnExactRankAfterSpec Rows.fnExactRankAfterRow = true :=
  facts_of 6 Try.f6 Rows.fnExactRankAfterSpec Rows.fnExactRankAfterRow (by as_aux_lemma => kernel_rfl) (by as_aux_lemma => kernel_rfl) (by as_aux_lemma => kernel_rfl) rfl rfl
    (by as_aux_lemma => kernel_rfl) (by as_aux_lemma => kernel_rfl) (by as_aux_lemma => kernel_rfl) (by as_aux_lemma => kernel_rfl)
    (by as_aux_lemma => kernel_rfl) (by as_aux_lemma => kernel_rfl) (by as_aux_lemma => kernel_rfl) (by as_aux_lemma => kernel_rfl) (by as_aux_lemma => kernel_rfl)
    (by as_aux_lemma => kernel_rfl) (by as_aux_lemma => kernel_rfl) (by as_aux_lemma => kernel_rfl) (by as_aux_lemma => kernel_rfl)
    rfl rfl rfl rfl (by as_aux_lemma => kernel_rfl) (by as_aux_lemma => kernel_rfl) (by as_aux_lemma => kernel_rfl) (by as_aux_lemma => kernel_rfl)
theorem over : Rows.fnExactRankAfterRow.holds Try.pinned (OpenSpec.ofChange Rows.fnExactRankAfterSpec) :=
  OpenClaim.holds_of_wide 6 Try.f6 rfl rfl rfl rfl rfl rfl rfl ⟨rfl, rfl, rfl, rfl, rfl⟩ rfl rfl rfl rfl rfl (by as_aux_lemma => kernel_rfl) Try.func6 own_facts
    (of_decide_eq_true (by as_aux_lemma => kernel_rfl)) (by unfold Func.isWrapper; first | (rw [if_pos (by decide +kernel)]; kernel_rfl) | (rw [if_neg (by decide +kernel)]; exact ⟨rfl, rfl⟩))
    (fun os started H enc _ => lifted os started H enc)

theorem proved : Rows.FnExactRankAfterSaid := over
#print axioms proved
end Go.Proofs.Ytggjheapjklhgaa.fnExactRankAfter
