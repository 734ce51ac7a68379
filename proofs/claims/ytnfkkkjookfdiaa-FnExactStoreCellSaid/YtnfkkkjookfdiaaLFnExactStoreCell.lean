/- The law 'FnExactStoreCell': for every input the program's function and the reference's agree, so the call returns true and leaves its arguments as they were; no condition. -/
import Derived.Test.YtnfkkkjookfdiaaRows
import Derived.Test.YtnfkkkjookfdiaaHead
import Derived.Test.YtnfkkkjookfdiaaStoW
import Derived.Test.YtnfkkkjookfdiaaMkC
import Derived.Test.YtnfkkkjookfdiaaBox
import Derived.WalkKit
import Derived.ProofKit
import Derived.OpenShut
import Derived.ShutString
import Derived.ChangeOld
import Derived.Below
namespace Go.Proofs.Ytnfkkkjookfdiaa.fnExactStoreCell
open Go.ChangeShapes Go.WideShapes Go.ChangeAt Go.RowKit
set_option linter.unusedVariables false

theorem own : ownKnob Try.prog.godebug = none := by kernel_rfl
theorem laidOut : laidOutB Try.prog = true := by kernel_rfl


set_option maxRecDepth 100000 in
theorem walk (w : World) (G : Geo) (A : ArrE) (hA : ArgArr w A) (D : Adr) (E : CellE) (hE : ArgCell w E) :
    Calls Try.prog 12 #[.agg #[.int .i64 G.a, .int .i64 G.b, .int .i64 G.r, .int .i64 G.c], .agg #[.slice A.s0.a A.s0.n A.s0.c, .slice A.s1.a A.s1.n A.s1.c, .slice A.s2.a A.s2.n A.s2.c], .agg #[.int .i64 D.b, .int .i64 D.r, .int .i64 D.c], .agg #[.slice E.a E.n E.c, .bool E.p]] w fun e w' => e = .returned (.bool true) ∧ Below w.heap.size w w' := by
  by_cases hsz : (A.d.tot : Int) ≤ 1048576
  · have hs := small_of hsz
    have HA := hid hA
    have HS := hid hs
    have HT := hid (szT_yes hsz)
    have h0 : (0 : Int) ≤ 1048576 - A.d.tot := by omega
    generalize hleft : (1048576 : Int) - A.d.tot = left at h0 HT
    have hdl : decide (left < 0) = false := by simp; omega
    clear hA hs
    go_enter Try.func12, Try.ntmps12
    go_wp2_with fail
    refine (szArray_any A _ _ ((((HA.out.reads.old (below_alloc _ _)).old (below_alloc _ _)).old (below_alloc _ _)).old (below_alloc _ _)) HA.out.ns HA.out.n0 HA.out.n1 HA.out.n2 (by omega) (by omega)).mono ?_
    rintro e w1 ⟨rfl, B1⟩
    rw [HT.out]
    have HB := hid (below_step (below_alloc4 _ _ _ _ _) B1 (Nat.le_refl _))
    have HXG := hid (((((BoxG.new_ w 31 G (show _ = w.heap.size by simp)).old (below_alloc _ _)).old (below_alloc _ _)).old (below_alloc _ _)).old B1)
    have HXA := hid ((((BoxR.new_ (w.alloc _) 34 A (show _ = w.heap.size + 1 by simp)).old (below_alloc _ _)).old (below_alloc _ _)).old B1)
    have HXD := hid (((BoxA.new_ ((w.alloc _).alloc _) 59 D (show _ = w.heap.size + 1 + 1 by simp)).old (below_alloc _ _)).old B1)
    have HXE := hid ((BoxE.new_ (((w.alloc _).alloc _).alloc _) 73 E (show _ = w.heap.size + 1 + 1 + 1 by simp)).old B1)
    have HR := hid (HA.out.reads.old HB.out)
    clear B1
    have HRE := hid (hE.reads.old HB.out)
    have HEN := hid hE.len
    have hmax := hE.max
    clear hE
    have hl1 : left ≤ 1048576 := by omega
    clear hleft
    have c0 := HXE.out.c0
    have c1 := HXE.out.c1
    go_wp2_with fail
    clear c0 c1
    refine (szCell_any _ _ _ _ left _ hmax h0 hl1).mono ?_
    rintro e w1b ⟨rfl, B1⟩
    have HXG := hid (HXG.out.old B1)
    have HXA := hid (HXA.out.old B1)
    have HXD := hid (HXD.out.old B1)
    have HXE := hid (HXE.out.old B1)
    have HR := hid (HR.out.old B1)
    have HRE := hid (HRE.out.old B1)
    have HB := hid (below_step HB.out B1 (Nat.le_refl _))
    clear B1
    by_cases hez : (E.n : Int) ≤ left
    · rw [szT_yes hez]
      have HEL : Hid (E.xs.length ≤ 1048576) := hid (by have := HEN.out; omega)
      have hdl2 : decide (left - (E.n : Int) < 0) = false := by simp; omega
      clear hez h0 hl1 hmax
      go_wp2_with fail
      have HSR : Hid (storeR G D E.d A.d).small := hid (storeR_small HS.out)
      have hB1 := hid (Below.refl w1b.heap.size w1b)
      have HB1 := hB1
      clear hB1
      have HXGw := HXG
      have HXAw := HXA
      have HXDw := HXD
      have HXEw := HXE
      have HRw := HR
      have HBw := HB
      clear HB
      have HREw := HRE
      refine grow_of 10 (fr := ?fr1)
        (fun i v w' => match i with
            | 0 => v = .agg #[.int .i64 G.a, .int .i64 G.b, .int .i64 G.r, .int .i64 G.c]
            | 1 => v = .agg #[.int .i64 G.a, .int .i64 G.b, .int .i64 G.r, .int .i64 G.c]
            | 2 => v = .agg #[.slice A.s0.a A.s0.n A.s0.c, .slice A.s1.a A.s1.n A.s1.c, .slice A.s2.a A.s2.n A.s2.c]
            | 3 => ∃ (A' : ArrE) (U : Nat), v = .agg #[.slice A'.s0.a A'.s0.n A'.s0.c, .slice A'.s1.a A'.s1.n A'.s1.c, .slice A'.s2.a A'.s2.n A'.s2.c] ∧ OwnA w' w1b.heap.size U A' ∧ A'.d = A.d
            | 4 => v = .agg #[.int .i64 D.b, .int .i64 D.r, .int .i64 D.c]
            | 5 => v = .agg #[.int .i64 D.b, .int .i64 D.r, .int .i64 D.c]
            | 6 => v = .agg #[.slice E.a E.n E.c, .bool E.p]
            | 7 => ∃ (a' : Option Addr) (c' : Nat), v = .agg #[.slice a' E.n c', .bool E.p] ∧ OwnS w' w1b.heap.size a' E.n c' E.xs
            | 8 => ∃ (Y : ArrE) (U : Nat), v = .agg #[.slice Y.s0.a Y.s0.n Y.s0.c, .slice Y.s1.a Y.s1.n Y.s1.c, .slice Y.s2.a Y.s2.n Y.s2.c] ∧ OwnA w' w1b.heap.size U Y ∧ Y.d = storeR G D E.d A.d
            | _ => ∃ g : Nat, v = .pointer (some ⟨g, 0, none⟩) ∧ w1b.heap.size ≤ g ∧ BoxN w' g) (by kernel_rfl) (by kernel_rfl) rfl ?hlast1 ?hfr1 ⟨fun _ => undef, ?h01⟩ ?hF1 ?hstep1 ?hend1
      case hfr1 => intro vs; simp only [frOf, List.take_succ_cons, List.take_zero]; go_simp; exact rfl
      case h01 => rfl
      case hlast1 =>
        intro o ho i hi
        simp only [List.getElem?_cons_succ, List.getElem?_cons_zero, Option.some.injEq] at ho
        subst ho
        match i, hi with
        | 0, _ => show (_ : Bool) = true; kernel_rfl
        | 1, _ => show (_ : Bool) = true; kernel_rfl
        | 2, _ => show (_ : Bool) = true; kernel_rfl
        | 3, _ => show (_ : Bool) = true; kernel_rfl
        | 4, _ => show (_ : Bool) = true; kernel_rfl
        | 5, _ => show (_ : Bool) = true; kernel_rfl
        | 6, _ => show (_ : Bool) = true; kernel_rfl
        | 7, _ => show (_ : Bool) = true; kernel_rfl
        | 8, _ => show (_ : Bool) = true; kernel_rfl
        | 9, _ => show (_ : Bool) = true; kernel_rfl
      case hF1 =>
        intro i v w' w'' h hb
        match i, h with
        | 0, h => exact h
        | 1, h => exact h
        | 2, h => exact h
        | 3, h => obtain ⟨A', U, e, o, d⟩ := h; exact ⟨A', U, e, o.old hb, d⟩
        | 4, h => exact h
        | 5, h => exact h
        | 6, h => exact h
        | 7, h => obtain ⟨a', c', e, o⟩ := h; exact ⟨a', c', e, o.old hb⟩
        | 8, h => obtain ⟨A', U, e, o, d⟩ := h; exact ⟨A', U, e, o.old hb, d⟩
        | n + 9, h => obtain ⟨g, e, l, o⟩ := h; exact ⟨g, e, l, o.old hb⟩
      case hstep1 =>
        intro vs w' i o hin ho hb hd
        match i, ho, hin with
        | 0, ho, _ =>
          simp only [List.getElem?_cons_zero, Option.some.injEq] at ho
          subst ho
          refine ⟨wanted_none rfl, ?_⟩
          have c0 := (HXG.out.old hb).c0
          have c1 := (HXG.out.old hb).c1
          have c2 := (HXG.out.old hb).c2
          have c3 := (HXG.out.old hb).c3
          generalize hK : (fun (a' : Act) (w'' : World) => ∃ v : Value, _ ∧ _ ∧ _) = K
          go_simp
          rw [← hK]
          exact ⟨_, rfl, rfl, Below.refl _ _⟩
        | 1, ho, _ =>
          simp only [List.getElem?_cons_succ, List.getElem?_cons_zero, Option.some.injEq] at ho
          subst ho
          refine ⟨wanted_none rfl, ?_⟩
          have e0 : Hid (vs 0 = .agg #[.int .i64 G.a, .int .i64 G.b, .int .i64 G.r, .int .i64 G.c]) := hd 0 (by kernel_rfl)
          generalize hK : (fun (a' : Act) (w'' : World) => ∃ v : Value, _ ∧ _ ∧ _) = K
          go_simp
          refine (calls_args (by rw [e0.out]) (toGeometry_any G _)).mono ?_
          rintro e w2 ⟨rfl, B⟩
          rw [← hK]
          exact ⟨_, rfl, rfl, B⟩
        | 2, ho, _ =>
          simp only [List.getElem?_cons_succ, List.getElem?_cons_zero, Option.some.injEq] at ho
          subst ho
          refine ⟨wanted_none rfl, ?_⟩
          have c0 := (HXA.out.old hb).c0
          have c1 := (HXA.out.old hb).c1
          have c2 := (HXA.out.old hb).c2
          generalize hK : (fun (a' : Act) (w'' : World) => ∃ v : Value, _ ∧ _ ∧ _) = K
          go_simp
          rw [← hK]
          exact ⟨_, rfl, rfl, Below.refl _ _⟩
        | 3, ho, _ =>
          simp only [List.getElem?_cons_succ, List.getElem?_cons_zero, Option.some.injEq] at ho
          subst ho
          refine ⟨wanted_none rfl, ?_⟩
          have e0 : Hid (vs 2 = .agg #[.slice A.s0.a A.s0.n A.s0.c, .slice A.s1.a A.s1.n A.s1.c, .slice A.s2.a A.s2.n A.s2.c]) := hd 2 (by kernel_rfl)
          generalize hK : (fun (a' : Act) (w'' : World) => ∃ v : Value, _ ∧ _ ∧ _) = K
          go_simp
          refine (calls_args (by rw [e0.out]) (toArray_any A _ (HR.out.old hb) HS.out)).mono ?_
          rintro e w2 ⟨A', rfl, O, D0, B⟩
          rw [← hK]
          exact ⟨_, rfl, ⟨A', _, rfl, O.mono hb.size, D0⟩, B⟩
        | 4, ho, _ =>
          simp only [List.getElem?_cons_succ, List.getElem?_cons_zero, Option.some.injEq] at ho
          subst ho
          refine ⟨wanted_none rfl, ?_⟩
          have c0 := (HXD.out.old hb).c0
          have c1 := (HXD.out.old hb).c1
          have c2 := (HXD.out.old hb).c2
          generalize hK : (fun (a' : Act) (w'' : World) => ∃ v : Value, _ ∧ _ ∧ _) = K
          go_simp
          rw [← hK]
          exact ⟨_, rfl, rfl, Below.refl _ _⟩
        | 5, ho, _ =>
          simp only [List.getElem?_cons_succ, List.getElem?_cons_zero, Option.some.injEq] at ho
          subst ho
          refine ⟨wanted_none rfl, ?_⟩
          have e0 : Hid (vs 4 = .agg #[.int .i64 D.b, .int .i64 D.r, .int .i64 D.c]) := hd 4 (by kernel_rfl)
          generalize hK : (fun (a' : Act) (w'' : World) => ∃ v : Value, _ ∧ _ ∧ _) = K
          go_simp
          refine (calls_args (by rw [e0.out]) (toAddr_any D _)).mono ?_
          rintro e w2 ⟨rfl, B⟩
          rw [← hK]
          exact ⟨_, rfl, rfl, B⟩
        | 6, ho, _ =>
          simp only [List.getElem?_cons_succ, List.getElem?_cons_zero, Option.some.injEq] at ho
          subst ho
          refine ⟨wanted_none rfl, ?_⟩
          have c0 := (HXE.out.old hb).c0
          have c1 := (HXE.out.old hb).c1
          generalize hK : (fun (a' : Act) (w'' : World) => ∃ v : Value, _ ∧ _ ∧ _) = K
          go_simp
          rw [← hK]
          exact ⟨_, rfl, rfl, Below.refl _ _⟩
        | 7, ho, _ =>
          simp only [List.getElem?_cons_succ, List.getElem?_cons_zero, Option.some.injEq] at ho
          subst ho
          refine ⟨wanted_none rfl, ?_⟩
          have e0 : Hid (vs 6 = .agg #[.slice E.a E.n E.c, .bool E.p]) := hd 6 (by kernel_rfl)
          generalize hK : (fun (a' : Act) (w'' : World) => ∃ v : Value, _ ∧ _ ∧ _) = K
          go_simp
          refine (calls_args (by rw [e0.out]) (toCell_any _ _ _ E.xs E.p _ (HRE.out.old hb) HEN.out HEL.out)).mono ?_
          rintro e w2 ⟨a', c', rfl, O, B⟩
          rw [← hK]
          exact ⟨_, rfl, ⟨a', c', rfl, O.mono hb.size⟩, B⟩
        | 8, ho, _ =>
          simp only [List.getElem?_cons_succ, List.getElem?_cons_zero, Option.some.injEq] at ho
          subst ho
          refine ⟨wanted_none rfl, ?_⟩
          have e1 : Hid (vs 1 = .agg #[.int .i64 G.a, .int .i64 G.b, .int .i64 G.r, .int .i64 G.c]) := hd 1 (by kernel_rfl)
          obtain ⟨A', U, ea', O, D0⟩ := hd 3 (by kernel_rfl)
          have ea := hid ea'
          clear ea'
          have e5 : Hid (vs 5 = .agg #[.int .i64 D.b, .int .i64 D.r, .int .i64 D.c]) := hd 5 (by kernel_rfl)
          obtain ⟨xa, xc, ec', OC'⟩ := hd 7 (by kernel_rfl)
          have ec := hid ec'
          clear ec'
          generalize hK : (fun (a' : Act) (w'' : World) => ∃ v : Value, _ ∧ _ ∧ _) = K
          go_simp
          refine (calls_args (by rw [e1.out, ea.out, e5.out, ec.out]) (specStoreCell_any G A' D ⟨xa, E.n, xc, E.xs, E.p⟩ _ (O.reads) (by rw [D0]; exact HS.out) OC'.reads HEN.out HEL.out)).mono ?_
          rintro e w2 ⟨Y, rfl, OY, DY, B⟩
          rw [← hK]
          exact ⟨_, rfl, ⟨Y, _, rfl, OY.mono hb.size, by rw [DY, D0]; rfl⟩, B⟩
        | 9, ho, _ =>
          simp only [List.getElem?_cons_succ, List.getElem?_cons_zero, Option.some.injEq] at ho
          subst ho
          refine ⟨wanted_none rfl, ?_⟩
          generalize hK : (fun (a' : Act) (w'' : World) => ∃ v : Value, _ ∧ _ ∧ _) = K
          go_simp
          rw [← hK]
          exact ⟨_, rfl, ⟨_, rfl, hb.size, BoxN.new _⟩, below_alloc _ _⟩
        | n + 10, _, hin => exact absurd hin (by omega)
      case hend1 =>
        intro vs w' o ho hb hf
        simp only [List.getElem?_cons_succ, List.getElem?_cons_zero, Option.some.injEq] at ho
        subst ho
        refine ⟨wanted_none rfl, ?_⟩
        obtain ⟨Y, UY, er, O, D0⟩ := hf 8 (by decide)
        obtain ⟨gY, ep, hg, N⟩ := hf 9 (by decide)
        generalize vs 8 = ur at er ⊢
        subst er
        generalize vs 9 = up at ep ⊢
        subst ep
        have HN := hid N
        have HOv := hid O
        have HHB := hid hb
        have HHG := hid hg
        clear hf N O hb hg
        have c0 := HN.out.c0
        have c1 := HN.out.c1
        have c2 := HN.out.c2
        have fr := HN.out.fr
        go_simp
        clear c0 c1 c2 fr
        generalize hw : (((w'.setCell ⟨gY, 0, none⟩ (.slice Y.s0.a Y.s0.n Y.s0.c)).setCell ⟨gY, 1, none⟩ (.slice Y.s1.a Y.s1.n Y.s1.c)).setCell ⟨gY, 2, none⟩ (.slice Y.s2.a Y.s2.n Y.s2.c)) = w2
        have K : Keeps (fun b => b = gY) w' w2 := by rw [← hw]; exact stored_keeps _ _ _ _ _
        have HOY := hid (HOv.out.stored HN.out.hh K)
        have HXY : Hid (BoxV w2 gY Y) := by rw [← hw]; exact hid (HN.out.stored Y)
        have HDY := hid D0
        have hbb := HHB.out.trans (K.below HHB.out.size (fun q hq hS => by have := HHG.out; omega))
        clear K hw HN HOv HHB HHG D0
        have HB1 := hid (below_step HB1.out hbb (Nat.le_refl _))
        clear hbb
        have HXG := hid (HXGw.out.old HB1.out)
        have HXA := hid (HXAw.out.old HB1.out)
        have HXD := hid (HXDw.out.old HB1.out)
        have HXE := hid (HXEw.out.old HB1.out)
        have HR := hid (HRw.out.old HB1.out)
        have HRE := hid (HREw.out.old HB1.out)
        have c0 := HXA.out.c0
        have c1 := HXA.out.c1
        have c2 := HXA.out.c2
        go_wp2_with fail
        clear c0 c1 c2
        refine (toArray_any A _ HR.out HS.out).mono ?_
        rintro e w3 ⟨X, rfl, OX, DX, B⟩
        have HOX := hid OX
        have HDX := hid DX
        have IX : Hid (UY ≤ w2.heap.size) := hid HOY.out.cells.row.le
        have HSZ2 : Hid (w1b.heap.size ≤ w2.heap.size) := hid HB1.out.size
        have HS23 : Hid (w2.heap.size ≤ w3.heap.size) := hid B.size
        have HOY := hid (HOY.out.old B)
        have HXY := hid (HXY.out.old B)
        have HB1 := hid (below_step HB1.out B (Nat.le_refl _))
        clear B OX DX
        have HXG := hid (HXGw.out.old HB1.out)
        have HXA := hid (HXAw.out.old HB1.out)
        have HXD := hid (HXDw.out.old HB1.out)
        have HXE := hid (HXEw.out.old HB1.out)
        have HR := hid (HRw.out.old HB1.out)
        have HRE := hid (HREw.out.old HB1.out)
        have c0 := (HXE.out.old (below_alloc w3 (.cells #[.slice X.s0.a X.s0.n X.s0.c, .slice X.s1.a X.s1.n X.s1.c, .slice X.s2.a X.s2.n X.s2.c] 41))).c0
        have c1 := (HXE.out.old (below_alloc w3 (.cells #[.slice X.s0.a X.s0.n X.s0.c, .slice X.s1.a X.s1.n X.s1.c, .slice X.s2.a X.s2.n X.s2.c] 41))).c1
        go_wp2_with fail
        clear c0 c1
        generalize hw : w3.alloc (.cells #[.slice X.s0.a X.s0.n X.s0.c, .slice X.s1.a X.s1.n X.s1.c, .slice X.s2.a X.s2.n X.s2.c] 41) = w4
        have HXX : Hid (BoxV w4 w3.heap.size X) := by rw [← hw]; exact hid (BoxV.new _ _)
        have B : Below w3.heap.size w3 w4 := by rw [← hw]; exact below_alloc _ _
        have HOX := hid (HOX.out.old B)
        have HOY := hid (HOY.out.old B)
        have HXY := hid (HXY.out.old B)
        have HB1 := hid (below_step HB1.out B (Nat.le_refl _))
        clear B hw
        have HXG := hid (HXGw.out.old HB1.out)
        have HXA := hid (HXAw.out.old HB1.out)
        have HXD := hid (HXDw.out.old HB1.out)
        have HXE := hid (HXEw.out.old HB1.out)
        have HR := hid (HRw.out.old HB1.out)
        have HRE := hid (HREw.out.old HB1.out)
        refine (toCell_any _ _ _ E.xs E.p _ HRE.out HEN.out HEL.out).mono ?_
        rintro e w4a ⟨Ca, Cc, rfl, OC, B⟩
        have HOC := hid OC
        have hic := fun (b : Nat) (hb : blkS Ca E.n b) => OC.lt hb
        have HIC := hid hic
        clear hic
        have HS34 : Hid (w3.heap.size ≤ w4.heap.size) := hid HOX.out.cells.row.le
        have HS44 : Hid (w4.heap.size ≤ w4a.heap.size) := hid B.size
        have HOY := hid (HOY.out.old B)
        have HXY := hid (HXY.out.old B)
        have HOX := hid (HOX.out.old B)
        have HXX := hid (HXX.out.old B)
        have HB1 := hid (below_step HB1.out B (Nat.le_refl _))
        clear B OC
        go_wp2_with fail
        refine wp_world (fun w4b hw => ?_)
        have HXC : Hid (BoxK w4b w4a.heap.size Ca E.n Cc E.p) := by rw [hw.out]; exact hid (BoxK.new _ _ _ _ _)
        have B : Below w4a.heap.size w4a w4b := by rw [hw.out]; exact below_alloc _ _
        have HOC := hid (HOC.out.old B)
        have HS45 : Hid (w4a.heap.size ≤ w4b.heap.size) := hid B.size
        have HOY := hid (HOY.out.old B)
        have HXY := hid (HXY.out.old B)
        have HOX := hid (HOX.out.old B)
        have HXX := hid (HXX.out.old B)
        have HB1 := hid (below_step HB1.out B (Nat.le_refl _))
        clear B hw
        have HXG := hid (HXGw.out.old HB1.out)
        have HXA := hid (HXAw.out.old HB1.out)
        have HXD := hid (HXDw.out.old HB1.out)
        have HXE := hid (HXEw.out.old HB1.out)
        have HR := hid (HRw.out.old HB1.out)
        have HRE := hid (HREw.out.old HB1.out)
        have IZ : Hid (w3.heap.size ≤ w4b.heap.size) := hid HOX.out.cells.row.le
        refine grow_of 8 (fr := ?fr2)
          (fun i v w' => match i with
              | 0 => v = .agg #[.int .i64 G.a, .int .i64 G.b, .int .i64 G.r, .int .i64 G.c]
              | 1 => v = .agg #[.int .i64 G.a, .int .i64 G.b, .int .i64 G.r, .int .i64 G.c]
              | 2 => v = .agg #[.slice X.s0.a X.s0.n X.s0.c, .slice X.s1.a X.s1.n X.s1.c, .slice X.s2.a X.s2.n X.s2.c]
              | 3 => v = .agg #[.int .i64 D.b, .int .i64 D.r, .int .i64 D.c]
              | 4 => v = .agg #[.int .i64 D.b, .int .i64 D.r, .int .i64 D.c]
              | 5 => v = .agg #[.slice Ca E.n Cc, .bool E.p]
              | 6 => ∃ (Y : ArrE) (U : Nat), v = .agg #[.slice Y.s0.a Y.s0.n Y.s0.c, .slice Y.s1.a Y.s1.n Y.s1.c, .slice Y.s2.a Y.s2.n Y.s2.c] ∧ OwnA w' w4b.heap.size U Y ∧ Y.d = storeR G D E.d A.d
              | _ => ∃ g : Nat, v = .pointer (some ⟨g, 0, none⟩) ∧ w4b.heap.size ≤ g ∧ BoxN w' g) (by kernel_rfl) (by kernel_rfl) rfl ?hlast2 ?hfr2 ⟨fun _ => undef, ?h02⟩ ?hF2 ?hstep2 ?hend2
        case hfr2 => intro vs; simp only [frOf, List.take_succ_cons, List.take_zero]; go_simp; exact rfl
        case h02 => rfl
        case hlast2 =>
          intro o ho i hi
          simp only [List.getElem?_cons_succ, List.getElem?_cons_zero, Option.some.injEq] at ho
          subst ho
          match i, hi with
          | 0, _ => show (_ : Bool) = true; kernel_rfl
          | 1, _ => show (_ : Bool) = true; kernel_rfl
          | 2, _ => show (_ : Bool) = true; kernel_rfl
          | 3, _ => show (_ : Bool) = true; kernel_rfl
          | 4, _ => show (_ : Bool) = true; kernel_rfl
          | 5, _ => show (_ : Bool) = true; kernel_rfl
          | 6, _ => show (_ : Bool) = true; kernel_rfl
          | 7, _ => show (_ : Bool) = true; kernel_rfl
        case hF2 =>
          intro i v w' w'' h hb
          match i, h with
          | 0, h => exact h
          | 1, h => exact h
          | 2, h => exact h
          | 3, h => exact h
          | 4, h => exact h
          | 5, h => exact h
          | 6, h => obtain ⟨A', U, e, o, d⟩ := h; exact ⟨A', U, e, o.old hb, d⟩
          | n + 7, h => obtain ⟨g, e, l, o⟩ := h; exact ⟨g, e, l, o.old hb⟩
        case hstep2 =>
          intro vs w' i o hin ho hb hd
          match i, ho, hin with
          | 0, ho, _ =>
            simp only [List.getElem?_cons_zero, Option.some.injEq] at ho
            subst ho
            refine ⟨wanted_none rfl, ?_⟩
            have c0 := (HXG.out.old hb).c0
            have c1 := (HXG.out.old hb).c1
            have c2 := (HXG.out.old hb).c2
            have c3 := (HXG.out.old hb).c3
            generalize hK : (fun (a' : Act) (w'' : World) => ∃ v : Value, _ ∧ _ ∧ _) = K
            go_simp
            rw [← hK]
            exact ⟨_, rfl, rfl, Below.refl _ _⟩
          | 1, ho, _ =>
            simp only [List.getElem?_cons_succ, List.getElem?_cons_zero, Option.some.injEq] at ho
            subst ho
            refine ⟨wanted_none rfl, ?_⟩
            have e0 : Hid (vs 0 = .agg #[.int .i64 G.a, .int .i64 G.b, .int .i64 G.r, .int .i64 G.c]) := hd 0 (by kernel_rfl)
            generalize hK : (fun (a' : Act) (w'' : World) => ∃ v : Value, _ ∧ _ ∧ _) = K
            go_simp
            refine (calls_args (by rw [e0.out]) (toGeometry_any G _)).mono ?_
            rintro e w2 ⟨rfl, B⟩
            rw [← hK]
            exact ⟨_, rfl, rfl, B⟩
          | 2, ho, _ =>
            simp only [List.getElem?_cons_succ, List.getElem?_cons_zero, Option.some.injEq] at ho
            subst ho
            refine ⟨wanted_none rfl, ?_⟩
            have c0 := (HXX.out.old hb).c0
            have c1 := (HXX.out.old hb).c1
            have c2 := (HXX.out.old hb).c2
            generalize hK : (fun (a' : Act) (w'' : World) => ∃ v : Value, _ ∧ _ ∧ _) = K
            go_simp
            rw [← hK]
            exact ⟨_, rfl, rfl, Below.refl _ _⟩
          | 3, ho, _ =>
            simp only [List.getElem?_cons_succ, List.getElem?_cons_zero, Option.some.injEq] at ho
            subst ho
            refine ⟨wanted_none rfl, ?_⟩
            have c0 := (HXD.out.old hb).c0
            have c1 := (HXD.out.old hb).c1
            have c2 := (HXD.out.old hb).c2
            generalize hK : (fun (a' : Act) (w'' : World) => ∃ v : Value, _ ∧ _ ∧ _) = K
            go_simp
            rw [← hK]
            exact ⟨_, rfl, rfl, Below.refl _ _⟩
          | 4, ho, _ =>
            simp only [List.getElem?_cons_succ, List.getElem?_cons_zero, Option.some.injEq] at ho
            subst ho
            refine ⟨wanted_none rfl, ?_⟩
            have e0 : Hid (vs 3 = .agg #[.int .i64 D.b, .int .i64 D.r, .int .i64 D.c]) := hd 3 (by kernel_rfl)
            generalize hK : (fun (a' : Act) (w'' : World) => ∃ v : Value, _ ∧ _ ∧ _) = K
            go_simp
            refine (calls_args (by rw [e0.out]) (toAddr_any D _)).mono ?_
            rintro e w2 ⟨rfl, B⟩
            rw [← hK]
            exact ⟨_, rfl, rfl, B⟩
          | 5, ho, _ =>
            simp only [List.getElem?_cons_succ, List.getElem?_cons_zero, Option.some.injEq] at ho
            subst ho
            refine ⟨wanted_none rfl, ?_⟩
            have c0 := (HXC.out.old hb).c0
            have c1 := (HXC.out.old hb).c1
            generalize hK : (fun (a' : Act) (w'' : World) => ∃ v : Value, _ ∧ _ ∧ _) = K
            go_simp
            rw [← hK]
            exact ⟨_, rfl, rfl, Below.refl _ _⟩
          | 6, ho, _ =>
            simp only [List.getElem?_cons_succ, List.getElem?_cons_zero, Option.some.injEq] at ho
            subst ho
            refine ⟨wanted_none rfl, ?_⟩
            have e1 : Hid (vs 1 = .agg #[.int .i64 G.a, .int .i64 G.b, .int .i64 G.r, .int .i64 G.c]) := hd 1 (by kernel_rfl)
            have ea : Hid (vs 2 = .agg #[.slice X.s0.a X.s0.n X.s0.c, .slice X.s1.a X.s1.n X.s1.c, .slice X.s2.a X.s2.n X.s2.c]) := hd 2 (by kernel_rfl)
            have e4 : Hid (vs 4 = .agg #[.int .i64 D.b, .int .i64 D.r, .int .i64 D.c]) := hd 4 (by kernel_rfl)
            have ec : Hid (vs 5 = .agg #[.slice Ca E.n Cc, .bool E.p]) := hd 5 (by kernel_rfl)
            generalize hK : (fun (a' : Act) (w'' : World) => ∃ v : Value, _ ∧ _ ∧ _) = K
            go_simp
            refine (calls_args (by rw [e1.out, ea.out, e4.out, ec.out]) (implStoreCell_any G X D ⟨Ca, E.n, Cc, E.xs, E.p⟩ _ (HOX.out.reads.old hb) (by rw [HDX.out]; exact HS.out) (HOC.out.old hb).reads HEN.out HEL.out)).mono ?_
            rintro e w2 ⟨Y, rfl, OY, DY, B⟩
            rw [← hK]
            exact ⟨_, rfl, ⟨Y, _, rfl, OY.mono hb.size, by rw [DY, HDX.out]; rfl⟩, B⟩
          | 7, ho, _ =>
            simp only [List.getElem?_cons_succ, List.getElem?_cons_zero, Option.some.injEq] at ho
            subst ho
            refine ⟨wanted_none rfl, ?_⟩
            generalize hK : (fun (a' : Act) (w'' : World) => ∃ v : Value, _ ∧ _ ∧ _) = K
            go_simp
            rw [← hK]
            exact ⟨_, rfl, ⟨_, rfl, hb.size, BoxN.new _⟩, below_alloc _ _⟩
          | n + 8, _, hin => exact absurd hin (by omega)
        case hend2 =>
          intro vs w' o ho hb hf
          simp only [List.getElem?_cons_succ, List.getElem?_cons_zero, Option.some.injEq] at ho
          subst ho
          refine ⟨wanted_none rfl, ?_⟩
          obtain ⟨Z, UZ, er, O, D0⟩ := hf 6 (by decide)
          obtain ⟨gZ, ep, hg, N⟩ := hf 7 (by decide)
          generalize vs 6 = ur at er ⊢
          subst er
          generalize vs 7 = up at ep ⊢
          subst ep
          have HN := hid N
          have HOv := hid O
          have HHB := hid hb
          have HHG := hid hg
          clear hf N O hb hg
          have c0 := HN.out.c0
          have c1 := HN.out.c1
          have c2 := HN.out.c2
          have fr := HN.out.fr
          go_simp
          clear c0 c1 c2 fr
          generalize hw : (((w'.setCell ⟨gZ, 0, none⟩ (.slice Z.s0.a Z.s0.n Z.s0.c)).setCell ⟨gZ, 1, none⟩ (.slice Z.s1.a Z.s1.n Z.s1.c)).setCell ⟨gZ, 2, none⟩ (.slice Z.s2.a Z.s2.n Z.s2.c)) = w5
          have K : Keeps (fun b => b = gZ) w' w5 := by rw [← hw]; exact stored_keeps _ _ _ _ _
          have HOZ := hid (HOv.out.stored HN.out.hh K)
          have HXZ : Hid (BoxV w5 gZ Z) := by rw [← hw]; exact hid (HN.out.stored Z)
          have HDZ := hid D0
          have hbb := HHB.out.trans (K.below HHB.out.size (fun q hq hS => by have := HHG.out; omega))
          clear K hw HN HOv HHB HHG D0
          have HOY := hid (HOY.out.old hbb)
          have HXY := hid (HXY.out.old hbb)
          have HOX := hid (HOX.out.old hbb)
          have HXX := hid (HXX.out.old hbb)
          have HOC := hid (HOC.out.old hbb)
          have HXC := hid (HXC.out.old hbb)
          have HB1 := hid (below_step HB1.out hbb (Nat.le_refl _))
          clear hbb
          have cZ0 := HXZ.out.c0
          have cZ1 := HXZ.out.c1
          have cZ2 := HXZ.out.c2
          have cY0 := HXY.out.c0
          have cY1 := HXY.out.c1
          have cY2 := HXY.out.c2
          go_wp2_with fail
          clear cZ0 cZ1 cZ2 cY0 cY1 cY2
          refine (eqArray_same Z Y _ HOZ.out.reads HOY.out.reads (by rw [HDZ.out, HDY.out]) (by rw [HDZ.out]; exact HSR.out)).mono ?_
          rintro e w6 ⟨rfl, B⟩
          have HOY := hid (HOY.out.old B)
          have HXY := hid (HXY.out.old B)
          have HOX := hid (HOX.out.old B)
          have HXX := hid (HXX.out.old B)
          have HOZ := hid (HOZ.out.old B)
          have HXZ := hid (HXZ.out.old B)
          have HOC := hid (HOC.out.old B)
          have HXC := hid (HXC.out.old B)
          have HB1 := hid (below_step HB1.out B (Nat.le_refl _))
          clear B
          go_wp2_with fail
          have HXG := hid (HXGw.out.old HB1.out)
          have HXA := hid (HXAw.out.old HB1.out)
          have HXD := hid (HXDw.out.old HB1.out)
          have HXE := hid (HXEw.out.old HB1.out)
          have HR := hid (HRw.out.old HB1.out)
          have HRE := hid (HREw.out.old HB1.out)
          refine grows_of (fr := ?fr3)
            (fun i v w' => match i with
                | 0 => v = .agg #[.slice X.s0.a X.s0.n X.s0.c, .slice X.s1.a X.s1.n X.s1.c, .slice X.s2.a X.s2.n X.s2.c]
                | 1 => v = .agg #[.slice A.s0.a A.s0.n A.s0.c, .slice A.s1.a A.s1.n A.s1.c, .slice A.s2.a A.s2.n A.s2.c]
                | 2 => ∃ (A' : ArrE) (U : Nat), v = .agg #[.slice A'.s0.a A'.s0.n A'.s0.c, .slice A'.s1.a A'.s1.n A'.s1.c, .slice A'.s2.a A'.s2.n A'.s2.c] ∧ OwnA w' w6.heap.size U A' ∧ A'.d = A.d
                | 3 => v = .bool true
                | _ => v = .bool false) (by kernel_rfl) (by kernel_rfl) ?hfr3 ⟨fun _ => undef, ?h03⟩ ?hF3 ?hstep3 ?hend3
          case hfr3 => intro vs; simp only [frOf]; go_simp; exact rfl
          case h03 => rfl
          case hF3 =>
            intro i v w' w'' h hb
            match i, h with
            | 0, h => exact h
            | 1, h => exact h
            | 2, h => obtain ⟨A', U, e, o, d⟩ := h; exact ⟨A', U, e, o.old hb, d⟩
            | 3, h => exact h
            | n + 4, h => exact h
          case hstep3 =>
            intro vs w' i o ho hb hd
            match i, ho with
            | 0, ho =>
              simp only [List.getElem?_cons_zero, Option.some.injEq] at ho
              subst ho
              refine ⟨wanted_none rfl, ?_⟩
              have c0 := (HXX.out.old hb).c0
              have c1 := (HXX.out.old hb).c1
              have c2 := (HXX.out.old hb).c2
              generalize hK : (fun (a' : Act) (w'' : World) => ∃ v : Value, _ ∧ _ ∧ _) = K
              go_simp
              rw [← hK]
              exact ⟨_, rfl, rfl, Below.refl _ _⟩
            | 1, ho =>
              simp only [List.getElem?_cons_succ, List.getElem?_cons_zero, Option.some.injEq] at ho
              subst ho
              refine ⟨wanted_none rfl, ?_⟩
              have c0 := (HXA.out.old hb).c0
              have c1 := (HXA.out.old hb).c1
              have c2 := (HXA.out.old hb).c2
              generalize hK : (fun (a' : Act) (w'' : World) => ∃ v : Value, _ ∧ _ ∧ _) = K
              go_simp
              rw [← hK]
              exact ⟨_, rfl, rfl, Below.refl _ _⟩
            | 2, ho =>
              simp only [List.getElem?_cons_succ, List.getElem?_cons_zero, Option.some.injEq] at ho
              subst ho
              refine ⟨wanted_none rfl, ?_⟩
              have e0 : Hid (vs 1 = .agg #[.slice A.s0.a A.s0.n A.s0.c, .slice A.s1.a A.s1.n A.s1.c, .slice A.s2.a A.s2.n A.s2.c]) := hd 1 (by kernel_rfl)
              generalize hK : (fun (a' : Act) (w'' : World) => ∃ v : Value, _ ∧ _ ∧ _) = K
              go_simp
              refine (calls_args (by rw [e0.out]) (toArray_any A _ (HR.out.old hb) HS.out)).mono ?_
              rintro e w2 ⟨A', rfl, O, D0, B⟩
              rw [← hK]
              exact ⟨_, rfl, ⟨A', _, rfl, O.mono hb.size, D0⟩, B⟩
            | 3, ho =>
              simp only [List.getElem?_cons_succ, List.getElem?_cons_zero, Option.some.injEq] at ho
              subst ho
              refine ⟨wanted_none rfl, ?_⟩
              have e0 : Hid (vs 0 = .agg #[.slice X.s0.a X.s0.n X.s0.c, .slice X.s1.a X.s1.n X.s1.c, .slice X.s2.a X.s2.n X.s2.c]) := hd 0 (by kernel_rfl)
              obtain ⟨A', U, ea', O, D0⟩ := hd 2 (by kernel_rfl)
              have ea := hid ea'
              clear ea'
              generalize hK : (fun (a' : Act) (w'' : World) => ∃ v : Value, _ ∧ _ ∧ _) = K
              go_simp
              refine (calls_args (by rw [e0.out, ea.out]) (eqArray_same X A' _ (HOX.out.reads.old hb) O.reads (by rw [HDX.out, D0]) (by rw [HDX.out]; exact HS.out))).mono ?_
              rintro e w2 ⟨rfl, B⟩
              rw [← hK]
              exact ⟨_, rfl, rfl, B⟩
            | 4, ho =>
              simp only [List.getElem?_cons_succ, List.getElem?_cons_zero, Option.some.injEq] at ho
              subst ho
              refine ⟨wanted_none rfl, ?_⟩
              have e3 : vs 3 = .bool true := hd 3 (by kernel_rfl)
              generalize hK : (fun (a' : Act) (w'' : World) => ∃ v : Value, _ ∧ _ ∧ _) = K
              go_simp
              rw [← hK]
              exact ⟨_, by simp [upd, e3], rfl, Below.refl _ _⟩
            | n + 5, ho => simp at ho
          case hend3 =>
            intro vs w7 hb hf
            have er : vs 4 = .bool false := hf 4 (by decide)
            have HOY := hid (HOY.out.old hb)
            have HXY := hid (HXY.out.old hb)
            have HOX := hid (HOX.out.old hb)
            have HXX := hid (HXX.out.old hb)
            have HOZ := hid (HOZ.out.old hb)
            have HXZ := hid (HXZ.out.old hb)
            have HOC := hid (HOC.out.old hb)
            have HXC := hid (HXC.out.old hb)
            have HB1 := hid (below_step HB1.out hb (Nat.le_refl _))
            clear hb hf
            generalize vs 4 = ur at er ⊢
            subst er
            go_wp2_with fail
            have HXG := hid (HXGw.out.old HB1.out)
            have HXA := hid (HXAw.out.old HB1.out)
            have HXD := hid (HXDw.out.old HB1.out)
            have HXE := hid (HXEw.out.old HB1.out)
            have HR := hid (HRw.out.old HB1.out)
            have HRE := hid (HREw.out.old HB1.out)
            refine grows_of (fr := ?fr4)
              (fun i v w' => match i with
                  | 0 => v = .agg #[.slice Ca E.n Cc, .bool E.p]
                  | 1 => v = .agg #[.slice E.a E.n E.c, .bool E.p]
                  | 2 => ∃ (a' : Option Addr) (c' : Nat), v = .agg #[.slice a' E.n c', .bool E.p] ∧ OwnS w' w7.heap.size a' E.n c' E.xs
                  | 3 => v = .bool true
                  | _ => v = .bool false) (by kernel_rfl) (by kernel_rfl) ?hfr4 ⟨fun _ => undef, ?h04⟩ ?hF4 ?hstep4 ?hend4
            case hfr4 => intro vs; simp only [frOf]; go_simp; exact rfl
            case h04 => rfl
            case hF4 =>
              intro i v w' w'' h hb
              match i, h with
              | 0, h => exact h
              | 1, h => exact h
              | 2, h => obtain ⟨a', c', e, o⟩ := h; exact ⟨a', c', e, o.old hb⟩
              | 3, h => exact h
              | n + 4, h => exact h
            case hstep4 =>
              intro vs w' i o ho hb hd
              match i, ho with
              | 0, ho =>
                simp only [List.getElem?_cons_zero, Option.some.injEq] at ho
                subst ho
                refine ⟨wanted_none rfl, ?_⟩
                have c0 := (HXC.out.old hb).c0
                have c1 := (HXC.out.old hb).c1
                generalize hK : (fun (a' : Act) (w'' : World) => ∃ v : Value, _ ∧ _ ∧ _) = K
                go_simp
                rw [← hK]
                exact ⟨_, rfl, rfl, Below.refl _ _⟩
              | 1, ho =>
                simp only [List.getElem?_cons_succ, List.getElem?_cons_zero, Option.some.injEq] at ho
                subst ho
                refine ⟨wanted_none rfl, ?_⟩
                have c0 := (HXE.out.old hb).c0
                have c1 := (HXE.out.old hb).c1
                generalize hK : (fun (a' : Act) (w'' : World) => ∃ v : Value, _ ∧ _ ∧ _) = K
                go_simp
                rw [← hK]
                exact ⟨_, rfl, rfl, Below.refl _ _⟩
              | 2, ho =>
                simp only [List.getElem?_cons_succ, List.getElem?_cons_zero, Option.some.injEq] at ho
                subst ho
                refine ⟨wanted_none rfl, ?_⟩
                have e0 : Hid (vs 1 = .agg #[.slice E.a E.n E.c, .bool E.p]) := hd 1 (by kernel_rfl)
                generalize hK : (fun (a' : Act) (w'' : World) => ∃ v : Value, _ ∧ _ ∧ _) = K
                go_simp
                refine (calls_args (by rw [e0.out]) (toCell_any _ _ _ E.xs E.p _ (HRE.out.old hb) HEN.out HEL.out)).mono ?_
                rintro e w2 ⟨a', c', rfl, O, B⟩
                rw [← hK]
                exact ⟨_, rfl, ⟨a', c', rfl, O.mono hb.size⟩, B⟩
              | 3, ho =>
                simp only [List.getElem?_cons_succ, List.getElem?_cons_zero, Option.some.injEq] at ho
                subst ho
                refine ⟨wanted_none rfl, ?_⟩
                have e0 : Hid (vs 0 = .agg #[.slice Ca E.n Cc, .bool E.p]) := hd 0 (by kernel_rfl)
                obtain ⟨xa, xc, ec', OC'⟩ := hd 2 (by kernel_rfl)
                have ec := hid ec'
                clear ec'
                generalize hK : (fun (a' : Act) (w'' : World) => ∃ v : Value, _ ∧ _ ∧ _) = K
                go_simp
                refine (calls_args (by rw [e0.out, ec.out]) (eqCell_same Ca xa E.n E.n Cc xc E.xs E.p _ (HOC.out.old hb).reads OC'.reads HEN.out HEN.out HEL.out)).mono ?_
                rintro e w2 ⟨rfl, B⟩
                rw [← hK]
                exact ⟨_, rfl, rfl, B⟩
              | 4, ho =>
                simp only [List.getElem?_cons_succ, List.getElem?_cons_zero, Option.some.injEq] at ho
                subst ho
                refine ⟨wanted_none rfl, ?_⟩
                have e3 : vs 3 = .bool true := hd 3 (by kernel_rfl)
                generalize hK : (fun (a' : Act) (w'' : World) => ∃ v : Value, _ ∧ _ ∧ _) = K
                go_simp
                rw [← hK]
                exact ⟨_, by simp [upd, e3], rfl, Below.refl _ _⟩
              | n + 5, ho => simp at ho
            case hend4 =>
              intro vs w7b hb hf
              have er : vs 4 = .bool false := hf 4 (by decide)
              have HOY := hid (HOY.out.old hb)
              have HXY := hid (HXY.out.old hb)
              have HOX := hid (HOX.out.old hb)
              have HXX := hid (HXX.out.old hb)
              have HOZ := hid (HOZ.out.old hb)
              have HXZ := hid (HXZ.out.old hb)
              have HOC := hid (HOC.out.old hb)
              have HXC := hid (HXC.out.old hb)
              have HB1 := hid (below_step HB1.out hb (Nat.le_refl _))
              clear hb hf
              generalize vs 4 = ur at er ⊢
              subst er
              have t0 : (0 : Int) ≤ 1 + A.d.tot := by omega
              generalize ht1 : (1 : Int) + A.d.tot = t1 at t0
              have HT1 := hid ht1
              clear ht1
              have t1m : t1 ≤ 1048577 := by have := HT1.out; omega
              have dt1 : decide (t1 + (E.n : Int) < 0) = false := by simp; omega
              have cX0 := HXX.out.c0
              have cX1 := HXX.out.c1
              have cX2 := HXX.out.c2
              go_wp2_with fail
              clear cX0 cX1 cX2
              refine (markArray_any X _ _ 1 _ HOX.out (by rw [HDX.out]; exact HS.out) (by decide) (by decide)).mono ?_
              rintro e w8 ⟨es', rfl, OM, DM, KM⟩
              rw [HDX.out]
              rw [HT1.out]
              have KM := hid KM
              have HOY2 := hid (HOY.out.keeps KM.out (fun b hb hS => by have := (HOX.out.inA_in hS).1; have := hb.2; have := IX.out; omega))
              have HXY2 := hid (HXY.out.keeps KM.out (HOX.out.inA_box HXY.out.hh))
              have HOZ2 := hid (HOZ.out.keeps KM.out (fun b hb hS => by have := (HOX.out.inA_in hS).2; have := hb.1; have := IZ.out; omega))
              have HXZ2 := hid (HXZ.out.keeps KM.out (HOX.out.inA_box HXZ.out.hh))
              have HOC2 := hid (HOC.out.keeps KM.out (fun b hb hS => by have := (HOX.out.inA_in hS).2; have := (HIC.out b hb).1; have := HS34.out; omega))
              have HXC2 := hid (HXC.out.keeps KM.out (fun hS => by have := (HOX.out.inA_in hS).2; have := HS34.out; have := HS44.out; omega))
              clear HOC HXC
              have HOC := HOC2
              have HXC := HXC2
              clear HOC2 HXC2
              have HB1 := hid (HB1.out.trans (KM.out.below HB1.out.size (fun q hq hS => by have := (HOX.out.inA_in hS).1; have := HSZ2.out; omega)))
              clear OM DM KM HOY HXY HOZ HXZ HOX HXX
              have HOY := HOY2
              have HXY := HXY2
              have HOZ := HOZ2
              have HXZ := HXZ2
              clear HOY2 HXY2 HOZ2 HXZ2
              have c0 := HXC.out.c0
              have c1 := HXC.out.c1
              go_wp2_with fail
              clear c0 c1
              refine (markCell_any Ca E.n Cc _ t1 E.xs E.p _ HOC.out (by have := HEN.out; have := HEL.out; omega) t0 (by omega)).mono ?_
              rintro e w8b ⟨rfl, OM, KM⟩
              have KM := hid KM
              have HOY2 := hid (HOY.out.keeps KM.out (fun b hb hS => by have := (HIC.out b hS).1; have := hb.2; have := IX.out; have := HS23.out; have := HS34.out; omega))
              have HXY2 := hid (HXY.out.keeps KM.out (fun hS => ints_not HOC.out HXY.out.hh (by decide) _ hS rfl))
              have HOZ2 := hid (HOZ.out.keeps KM.out (fun b hb hS => by have := (HIC.out b hS).2; have := hb.1; have := HS45.out; omega))
              have HXZ2 := hid (HXZ.out.keeps KM.out (fun hS => ints_not HOC.out HXZ.out.hh (by decide) _ hS rfl))
              have HB1 := hid (HB1.out.trans (KM.out.below HB1.out.size (fun q hq hS => by have := (HIC.out q hS).1; have := HSZ2.out; have := HS23.out; have := HS34.out; omega)))
              clear OM KM HOY HXY HOZ HXZ HOC HXC
              have HOY := HOY2
              have HXY := HXY2
              have HOZ := HOZ2
              have HXZ := HXZ2
              clear HOY2 HXY2 HOZ2 HXZ2
              have cZ0 := HXZ.out.c0
              have cZ1 := HXZ.out.c1
              have cZ2 := HXZ.out.c2
              have cY0 := HXY.out.c0
              have cY1 := HXY.out.c1
              have cY2 := HXY.out.c2
              go_wp2_with fail
              clear cZ0 cZ1 cZ2 cY0 cY1 cY2
              refine (eqArray_same Z Y _ HOZ.out.reads HOY.out.reads (by rw [HDZ.out, HDY.out]) (by rw [HDZ.out]; exact HSR.out)).mono ?_
              rintro e w9 ⟨rfl, B⟩
              have HOY := hid (HOY.out.old B)
              have HXY := hid (HXY.out.old B)
              have HOZ := hid (HOZ.out.old B)
              have HXZ := hid (HXZ.out.old B)
              have HB1 := hid (below_step HB1.out B (Nat.le_refl _))
              clear B
              have t2 : (0 : Int) ≤ 1 + (storeR G D E.d A.d).tot := by omega
              generalize ht2 : (1 : Int) + (storeR G D E.d A.d).tot = m2 at t2
              have HT2 := hid ht2
              clear ht2
              have dt2 : decide (m2 < 0) = false := by simp; omega
              have dne : (m2 != m2) = false := by simp
              have cZ0 := HXZ.out.c0
              have cZ1 := HXZ.out.c1
              have cZ2 := HXZ.out.c2
              go_wp2_with fail
              clear cZ0 cZ1 cZ2
              refine (markArray_any Z _ _ 1 _ HOZ.out (by rw [HDZ.out]; exact HSR.out) (by decide) (by decide)).mono ?_
              rintro e w10 ⟨es', rfl, OM, DM, KM⟩
              rw [HDZ.out]
              rw [HT2.out]
              have KM := hid KM
              have HOY2 := hid (HOY.out.keeps KM.out (fun b hb hS => by have := (HOZ.out.inA_in hS).1; have := hb.2; have := IX.out; have := IZ.out; have := HS23.out; omega))
              have HXY2 := hid (HXY.out.keeps KM.out (HOZ.out.inA_box HXY.out.hh))
              have HXZ2 := hid (HXZ.out.keeps KM.out (HOZ.out.inA_box HXZ.out.hh))
              have HB1 := hid (HB1.out.trans (KM.out.below HB1.out.size (fun q hq hS => by have := (HOZ.out.inA_in hS).1; have := HSZ2.out; have := HS23.out; have := IZ.out; omega)))
              have HOM := hid OM
              have HDM := hid DM
              clear OM DM KM HOY HXY HOZ HXZ
              have HOY := HOY2
              have HXY := HXY2
              have HXZ := HXZ2
              clear HOY2 HXY2 HXZ2
              rw [HDZ.out] at HOM HDM
              obtain ⟨Z', hZ'⟩ : ∃ Z' : ArrE, Z' = ⟨Z.s0, Z.s1, Z.s2, es', marks (1 + sumC (storeR G D E.d A.d).lens) Z.s1.n, marks (1 + sumC (storeR G D E.d A.d).lens + Z.s1.n) Z.s2.n⟩ := ⟨_, rfl⟩
              rw [← hZ'] at HOM HDM
              have HXM : Hid (BoxV w10 gZ Z') := by rw [hZ']; exact hid ⟨HXZ.out.hh⟩
              clear hZ' HXZ HDZ
              have cZ0 := HXM.out.c0
              have cZ1 := HXM.out.c1
              have cZ2 := HXM.out.c2
              go_wp2_with fail
              clear cZ0 cZ1 cZ2
              refine (heldArray_any Z' (storeR G D E.d A.d) 1 _ HOM.out.reads HDM.out HSR.out (by decide) (by decide)).mono ?_
              rintro e w11 ⟨rfl, B⟩
              rw [HT2.out]
              have HOM := hid (HOM.out.old B)
              have HXM := hid (HXM.out.old B)
              have HOY := hid (HOY.out.old B)
              have HXY := hid (HXY.out.old B)
              have HB1 := hid (below_step HB1.out B (Nat.le_refl _))
              clear B
              go_wp2_with fail
              have HXG := hid (HXGw.out.old HB1.out)
              have HXA := hid (HXAw.out.old HB1.out)
              have HXD := hid (HXDw.out.old HB1.out)
              have HXE := hid (HXEw.out.old HB1.out)
              have HR := hid (HRw.out.old HB1.out)
              have HRE := hid (HREw.out.old HB1.out)
              have HZs := HOM
              clear HZs
              refine grow_of 10 (fr := ?fr5)
                (fun i v w' => match i with
                    | 0 => v = .agg #[.int .i64 G.a, .int .i64 G.b, .int .i64 G.r, .int .i64 G.c]
                    | 1 => v = .agg #[.int .i64 G.a, .int .i64 G.b, .int .i64 G.r, .int .i64 G.c]
                    | 2 => v = .agg #[.slice A.s0.a A.s0.n A.s0.c, .slice A.s1.a A.s1.n A.s1.c, .slice A.s2.a A.s2.n A.s2.c]
                    | 3 => ∃ (A' : ArrE) (U : Nat), v = .agg #[.slice A'.s0.a A'.s0.n A'.s0.c, .slice A'.s1.a A'.s1.n A'.s1.c, .slice A'.s2.a A'.s2.n A'.s2.c] ∧ OwnA w' w11.heap.size U A' ∧ A'.d = A.d
                    | 4 => v = .agg #[.int .i64 D.b, .int .i64 D.r, .int .i64 D.c]
                    | 5 => v = .agg #[.int .i64 D.b, .int .i64 D.r, .int .i64 D.c]
                    | 6 => v = .agg #[.slice E.a E.n E.c, .bool E.p]
                    | 7 => ∃ (a' : Option Addr) (c' : Nat), v = .agg #[.slice a' E.n c', .bool E.p] ∧ OwnS w' w11.heap.size a' E.n c' E.xs
                    | 8 => ∃ (Y : ArrE) (U : Nat), v = .agg #[.slice Y.s0.a Y.s0.n Y.s0.c, .slice Y.s1.a Y.s1.n Y.s1.c, .slice Y.s2.a Y.s2.n Y.s2.c] ∧ OwnA w' w11.heap.size U Y ∧ Y.d = storeR G D E.d A.d
                    | _ => ∃ g : Nat, v = .pointer (some ⟨g, 0, none⟩) ∧ w11.heap.size ≤ g ∧ BoxN w' g) (by kernel_rfl) (by kernel_rfl) rfl ?hlast5 ?hfr5 ⟨fun _ => undef, ?h05⟩ ?hF5 ?hstep5 ?hend5
              case hfr5 => intro vs; simp only [frOf, List.take_succ_cons, List.take_zero]; go_simp; exact rfl
              case h05 => rfl
              case hlast5 =>
                intro o ho i hi
                simp only [List.getElem?_cons_succ, List.getElem?_cons_zero, Option.some.injEq] at ho
                subst ho
                match i, hi with
                | 0, _ => show (_ : Bool) = true; kernel_rfl
                | 1, _ => show (_ : Bool) = true; kernel_rfl
                | 2, _ => show (_ : Bool) = true; kernel_rfl
                | 3, _ => show (_ : Bool) = true; kernel_rfl
                | 4, _ => show (_ : Bool) = true; kernel_rfl
                | 5, _ => show (_ : Bool) = true; kernel_rfl
                | 6, _ => show (_ : Bool) = true; kernel_rfl
                | 7, _ => show (_ : Bool) = true; kernel_rfl
                | 8, _ => show (_ : Bool) = true; kernel_rfl
                | 9, _ => show (_ : Bool) = true; kernel_rfl
              case hF5 =>
                intro i v w' w'' h hb
                match i, h with
                | 0, h => exact h
                | 1, h => exact h
                | 2, h => exact h
                | 3, h => obtain ⟨A', U, e, o, d⟩ := h; exact ⟨A', U, e, o.old hb, d⟩
                | 4, h => exact h
                | 5, h => exact h
                | 6, h => exact h
                | 7, h => obtain ⟨a', c', e, o⟩ := h; exact ⟨a', c', e, o.old hb⟩
                | 8, h => obtain ⟨A', U, e, o, d⟩ := h; exact ⟨A', U, e, o.old hb, d⟩
                | n + 9, h => obtain ⟨g, e, l, o⟩ := h; exact ⟨g, e, l, o.old hb⟩
              case hstep5 =>
                intro vs w' i o hin ho hb hd
                match i, ho, hin with
                | 0, ho, _ =>
                  simp only [List.getElem?_cons_zero, Option.some.injEq] at ho
                  subst ho
                  refine ⟨wanted_none rfl, ?_⟩
                  have c0 := (HXG.out.old hb).c0
                  have c1 := (HXG.out.old hb).c1
                  have c2 := (HXG.out.old hb).c2
                  have c3 := (HXG.out.old hb).c3
                  generalize hK : (fun (a' : Act) (w'' : World) => ∃ v : Value, _ ∧ _ ∧ _) = K
                  go_simp
                  rw [← hK]
                  exact ⟨_, rfl, rfl, Below.refl _ _⟩
                | 1, ho, _ =>
                  simp only [List.getElem?_cons_succ, List.getElem?_cons_zero, Option.some.injEq] at ho
                  subst ho
                  refine ⟨wanted_none rfl, ?_⟩
                  have e0 : Hid (vs 0 = .agg #[.int .i64 G.a, .int .i64 G.b, .int .i64 G.r, .int .i64 G.c]) := hd 0 (by kernel_rfl)
                  generalize hK : (fun (a' : Act) (w'' : World) => ∃ v : Value, _ ∧ _ ∧ _) = K
                  go_simp
                  refine (calls_args (by rw [e0.out]) (toGeometry_any G _)).mono ?_
                  rintro e w2 ⟨rfl, B⟩
                  rw [← hK]
                  exact ⟨_, rfl, rfl, B⟩
                | 2, ho, _ =>
                  simp only [List.getElem?_cons_succ, List.getElem?_cons_zero, Option.some.injEq] at ho
                  subst ho
                  refine ⟨wanted_none rfl, ?_⟩
                  have c0 := (HXA.out.old hb).c0
                  have c1 := (HXA.out.old hb).c1
                  have c2 := (HXA.out.old hb).c2
                  generalize hK : (fun (a' : Act) (w'' : World) => ∃ v : Value, _ ∧ _ ∧ _) = K
                  go_simp
                  rw [← hK]
                  exact ⟨_, rfl, rfl, Below.refl _ _⟩
                | 3, ho, _ =>
                  simp only [List.getElem?_cons_succ, List.getElem?_cons_zero, Option.some.injEq] at ho
                  subst ho
                  refine ⟨wanted_none rfl, ?_⟩
                  have e0 : Hid (vs 2 = .agg #[.slice A.s0.a A.s0.n A.s0.c, .slice A.s1.a A.s1.n A.s1.c, .slice A.s2.a A.s2.n A.s2.c]) := hd 2 (by kernel_rfl)
                  generalize hK : (fun (a' : Act) (w'' : World) => ∃ v : Value, _ ∧ _ ∧ _) = K
                  go_simp
                  refine (calls_args (by rw [e0.out]) (toArray_any A _ (HR.out.old hb) HS.out)).mono ?_
                  rintro e w2 ⟨A', rfl, O, D0, B⟩
                  rw [← hK]
                  exact ⟨_, rfl, ⟨A', _, rfl, O.mono hb.size, D0⟩, B⟩
                | 4, ho, _ =>
                  simp only [List.getElem?_cons_succ, List.getElem?_cons_zero, Option.some.injEq] at ho
                  subst ho
                  refine ⟨wanted_none rfl, ?_⟩
                  have c0 := (HXD.out.old hb).c0
                  have c1 := (HXD.out.old hb).c1
                  have c2 := (HXD.out.old hb).c2
                  generalize hK : (fun (a' : Act) (w'' : World) => ∃ v : Value, _ ∧ _ ∧ _) = K
                  go_simp
                  rw [← hK]
                  exact ⟨_, rfl, rfl, Below.refl _ _⟩
                | 5, ho, _ =>
                  simp only [List.getElem?_cons_succ, List.getElem?_cons_zero, Option.some.injEq] at ho
                  subst ho
                  refine ⟨wanted_none rfl, ?_⟩
                  have e0 : Hid (vs 4 = .agg #[.int .i64 D.b, .int .i64 D.r, .int .i64 D.c]) := hd 4 (by kernel_rfl)
                  generalize hK : (fun (a' : Act) (w'' : World) => ∃ v : Value, _ ∧ _ ∧ _) = K
                  go_simp
                  refine (calls_args (by rw [e0.out]) (toAddr_any D _)).mono ?_
                  rintro e w2 ⟨rfl, B⟩
                  rw [← hK]
                  exact ⟨_, rfl, rfl, B⟩
                | 6, ho, _ =>
                  simp only [List.getElem?_cons_succ, List.getElem?_cons_zero, Option.some.injEq] at ho
                  subst ho
                  refine ⟨wanted_none rfl, ?_⟩
                  have c0 := (HXE.out.old hb).c0
                  have c1 := (HXE.out.old hb).c1
                  generalize hK : (fun (a' : Act) (w'' : World) => ∃ v : Value, _ ∧ _ ∧ _) = K
                  go_simp
                  rw [← hK]
                  exact ⟨_, rfl, rfl, Below.refl _ _⟩
                | 7, ho, _ =>
                  simp only [List.getElem?_cons_succ, List.getElem?_cons_zero, Option.some.injEq] at ho
                  subst ho
                  refine ⟨wanted_none rfl, ?_⟩
                  have e0 : Hid (vs 6 = .agg #[.slice E.a E.n E.c, .bool E.p]) := hd 6 (by kernel_rfl)
                  generalize hK : (fun (a' : Act) (w'' : World) => ∃ v : Value, _ ∧ _ ∧ _) = K
                  go_simp
                  refine (calls_args (by rw [e0.out]) (toCell_any _ _ _ E.xs E.p _ (HRE.out.old hb) HEN.out HEL.out)).mono ?_
                  rintro e w2 ⟨a', c', rfl, O, B⟩
                  rw [← hK]
                  exact ⟨_, rfl, ⟨a', c', rfl, O.mono hb.size⟩, B⟩
                | 8, ho, _ =>
                  simp only [List.getElem?_cons_succ, List.getElem?_cons_zero, Option.some.injEq] at ho
                  subst ho
                  refine ⟨wanted_none rfl, ?_⟩
                  have e1 : Hid (vs 1 = .agg #[.int .i64 G.a, .int .i64 G.b, .int .i64 G.r, .int .i64 G.c]) := hd 1 (by kernel_rfl)
                  obtain ⟨A', U, ea', O, D0⟩ := hd 3 (by kernel_rfl)
                  have ea := hid ea'
                  clear ea'
                  have e5 : Hid (vs 5 = .agg #[.int .i64 D.b, .int .i64 D.r, .int .i64 D.c]) := hd 5 (by kernel_rfl)
                  obtain ⟨xa, xc, ec', OC'⟩ := hd 7 (by kernel_rfl)
                  have ec := hid ec'
                  clear ec'
                  generalize hK : (fun (a' : Act) (w'' : World) => ∃ v : Value, _ ∧ _ ∧ _) = K
                  go_simp
                  refine (calls_args (by rw [e1.out, ea.out, e5.out, ec.out]) (implStoreCell_any G A' D ⟨xa, E.n, xc, E.xs, E.p⟩ _ (O.reads) (by rw [D0]; exact HS.out) OC'.reads HEN.out HEL.out)).mono ?_
                  rintro e w2 ⟨Y, rfl, OY, DY, B⟩
                  rw [← hK]
                  exact ⟨_, rfl, ⟨Y, _, rfl, OY.mono hb.size, by rw [DY, D0]; rfl⟩, B⟩
                | 9, ho, _ =>
                  simp only [List.getElem?_cons_succ, List.getElem?_cons_zero, Option.some.injEq] at ho
                  subst ho
                  refine ⟨wanted_none rfl, ?_⟩
                  generalize hK : (fun (a' : Act) (w'' : World) => ∃ v : Value, _ ∧ _ ∧ _) = K
                  go_simp
                  rw [← hK]
                  exact ⟨_, rfl, ⟨_, rfl, hb.size, BoxN.new _⟩, below_alloc _ _⟩
                | n + 10, _, hin => exact absurd hin (by omega)
              case hend5 =>
                intro vs w' o ho hb hf
                simp only [List.getElem?_cons_succ, List.getElem?_cons_zero, Option.some.injEq] at ho
                subst ho
                refine ⟨wanted_none rfl, ?_⟩
                obtain ⟨V, UV, er, O, D0⟩ := hf 8 (by decide)
                obtain ⟨gV, ep, hg, N⟩ := hf 9 (by decide)
                generalize vs 8 = ur at er ⊢
                subst er
                generalize vs 9 = up at ep ⊢
                subst ep
                have HN := hid N
                have HOv := hid O
                have HHB := hid hb
                have HHG := hid hg
                clear hf N O hb hg
                have c0 := HN.out.c0
                have c1 := HN.out.c1
                have c2 := HN.out.c2
                have fr := HN.out.fr
                go_simp
                clear c0 c1 c2 fr
                generalize hw : (((w'.setCell ⟨gV, 0, none⟩ (.slice V.s0.a V.s0.n V.s0.c)).setCell ⟨gV, 1, none⟩ (.slice V.s1.a V.s1.n V.s1.c)).setCell ⟨gV, 2, none⟩ (.slice V.s2.a V.s2.n V.s2.c)) = w12
                have K : Keeps (fun b => b = gV) w' w12 := by rw [← hw]; exact stored_keeps _ _ _ _ _
                have HOV := hid (HOv.out.stored HN.out.hh K)
                have HXV : Hid (BoxV w12 gV V) := by rw [← hw]; exact hid (HN.out.stored V)
                have HDV := hid D0
                have hbb := HHB.out.trans (K.below HHB.out.size (fun q hq hS => by have := HHG.out; omega))
                clear K hw HN HOv HHB HHG D0
                have HOY := hid (HOY.out.old hbb)
                have HXY := hid (HXY.out.old hbb)
                have HB1 := hid (below_step HB1.out hbb (Nat.le_refl _))
                have HOM := hid (HOM.out.old hbb)
                have HXM := hid (HXM.out.old hbb)
                clear hbb
                have cV0 := HXV.out.c0
                have cV1 := HXV.out.c1
                have cV2 := HXV.out.c2
                have cY0 := HXY.out.c0
                have cY1 := HXY.out.c1
                have cY2 := HXY.out.c2
                go_wp2_with fail
                clear cV0 cV1 cV2 cY0 cY1 cY2
                refine (eqArray_same V Y _ HOV.out.reads HOY.out.reads (by rw [HDV.out, HDY.out]) (by rw [HDV.out]; exact HSR.out)).mono ?_
                rintro e w13 ⟨rfl, B⟩
                have HOM := hid (HOM.out.old B)
                have HXM := hid (HXM.out.old B)
                have HB1 := hid (below_step HB1.out B (Nat.le_refl _))
                clear B
                have cZ0 := HXM.out.c0
                have cZ1 := HXM.out.c1
                have cZ2 := HXM.out.c2
                go_wp2_with fail
                clear cZ0 cZ1 cZ2
                refine (heldArray_any Z' (storeR G D E.d A.d) 1 _ HOM.out.reads HDM.out HSR.out (by decide) (by decide)).mono ?_
                rintro e w14 ⟨rfl, B⟩
                rw [HT2.out]
                have HOM := hid (HOM.out.old B)
                have HXM := hid (HXM.out.old B)
                have HB1 := hid (below_step HB1.out B (Nat.le_refl _))
                clear B
                go_wp2_with fail
                go_ret
                exact ⟨rfl, below_step HBw.out HB1.out (Nat.le_refl _)⟩
    · rw [szT_no (by omega)]
      go_wp2_with fail
      go_ret
      exact ⟨rfl, HB.out⟩
  · have HA := hid hA
    have HT := hid (szT_no (t := A.d.tot) (left := 1048576) (by omega))
    clear hA
    go_enter Try.func12, Try.ntmps12
    go_wp2_with fail
    refine (szArray_any A _ _ ((((HA.out.reads.old (below_alloc _ _)).old (below_alloc _ _)).old (below_alloc _ _)).old (below_alloc _ _)) HA.out.ns HA.out.n0 HA.out.n1 HA.out.n2 (by omega) (by omega)).mono ?_
    rintro e w1 ⟨rfl, B1⟩
    rw [HT.out]
    go_wp2_with fail
    go_ret
    exact ⟨rfl, below_step (below_alloc4 _ _ _ _ _) B1 (Nat.le_refl _)⟩

set_option maxRecDepth 100000 in
theorem lifted (os : Os) (started : os.Started) (H : Type) (enc : TypeId × Value → H) :
    ReturnsInHanded {} Try.checked os 12 .any (Rows.fnExactStoreCellSpec.pre6 enc Try.prog Try.f12 Rows.fnExactStoreCellRow.domain false) (Rows.fnExactStoreCellSpec.post enc Try.prog Try.f12 false true false false) := by
  refine returnsInHanded_of_change (C := Try.checked) own started (by kernel_rfl) Try.func12
    (ChangeSpec.witness6 (enc := enc) (C := Try.checked) false ⟨#[], #[.agg #[.int .i64 0, .int .i64 0, .int .i64 0, .int .i64 0], .agg #[.slice none 0 0, .slice none 0 0, .slice none 0 0], .agg #[.int .i64 0, .int .i64 0, .int .i64 0], .agg #[.slice none 0 0, .bool false]], []⟩ 8 (by kernel_rfl) (by kernel_rfl) (by kernel_rfl) (by kernel_rfl)) ?_
  intro W base args ds gs before hval0 hW hcnd _
  have hval : ∀ (j : Nat) t v, Try.f12.params[j]? = some t → args[j]? = some v → Value.okWide Try.prog W .any base t v := hval0
  have hW' := hW
  obtain ⟨p, q, hA0, hV, rfl, hfz, hnd⟩ := hW
  have hA : DataW.TrodAll enc Try.prog W 0 (fun _ => true) true Try.f12.params.toList args.toList ds p := hA0
  rw [Try.params12] at hA hval
  obtain ⟨v0, vs0, d0, ds0, p0, q0, hargs, rfl, rfl, h0, r0⟩ := trodAll_cons hA
  obtain ⟨v1, vs1, d1, ds1, p1, q1, rfl, rfl, rfl, h1, r1⟩ := trodAll_cons r0
  obtain ⟨v2, vs2, d2, ds2, p2, q2, rfl, rfl, rfl, h2, r2⟩ := trodAll_cons r1
  obtain ⟨v3, vs3, d3, ds3, p3, q3, rfl, rfl, rfl, h3, r3⟩ := trodAll_cons r2
  obtain ⟨rfl, rfl, rfl⟩ := trodAll_nil r3
  obtain rfl : args = #[v0, v1, v2, v3] := by cases args; simp_all
  obtain ⟨rfl, rfl⟩ := trodVars_none hV
  have k0 := h0
  have lt0 : ∀ x ∈ p0, x.block < W.heap.size := by obtain ⟨m, hm⟩ := k0; exact DataW.trod_lt m _ _ _ hm
  obtain ⟨G, rfl⟩ := open_geo (hval 0 31 v0 rfl rfl) h0
  have k1 := h1
  have lt1 : ∀ x ∈ p1, x.block < W.heap.size := by obtain ⟨m, hm⟩ := k1; exact DataW.trod_lt m _ _ _ hm
  obtain ⟨A, rfl, hArr⟩ := open_array (hval 1 34 v1 rfl rfl) h1
  have k2 := h2
  have lt2 : ∀ x ∈ p2, x.block < W.heap.size := by obtain ⟨m, hm⟩ := k2; exact DataW.trod_lt m _ _ _ hm
  obtain ⟨D, rfl⟩ := open_adr (hval 2 59 v2 rfl rfl) h2
  have k3 := h3
  have lt3 : ∀ x ∈ p3, x.block < W.heap.size := by obtain ⟨m, hm⟩ := k3; exact DataW.trod_lt m _ _ _ hm
  obtain ⟨E, rfl, hCel⟩ := open_cel (hval 3 73 v3 rfl rfl) h3
  clear hA0 hval0
  refine (walk W G A hArr D E hCel).mono fun e W' ⟨he, bel⟩ => ?_
  subst he
  exact ⟨_, rfl, _, _, _, [], _, [], hW', trodAll_mk1 (shut_bool Try.underlying4 _), (trodAll_cons_mk (Below.trod laidOut (by kernel_rfl) (of_decide_eq_true (by kernel_rfl)) k0 bel lt0) (trodAll_cons_mk (Below.trod laidOut (by kernel_rfl) (of_decide_eq_true (by kernel_rfl)) k1 bel lt1) (trodAll_cons_mk (Below.trod laidOut (by kernel_rfl) (of_decide_eq_true (by kernel_rfl)) k2 bel lt2) (trodAll_cons_mk (Below.trod laidOut (by kernel_rfl) (of_decide_eq_true (by kernel_rfl)) k3 bel lt3) trodAll_mk0)))), rfl, bel.frame _, fun h => by cases h⟩

theorem own_facts : joinedFacts Try.prog 12 Try.f12 Rows.fnExactStoreCellSpec Rows.fnExactStoreCellRow = true :=
  facts_of 12 Try.f12 Rows.fnExactStoreCellSpec Rows.fnExactStoreCellRow (by as_aux_lemma => kernel_rfl) (by as_aux_lemma => kernel_rfl) (by as_aux_lemma => kernel_rfl) rfl rfl
    (by as_aux_lemma => kernel_rfl) (by as_aux_lemma => kernel_rfl) (by as_aux_lemma => kernel_rfl) (by as_aux_lemma => kernel_rfl)
    (by as_aux_lemma => kernel_rfl) (by as_aux_lemma => kernel_rfl) (by as_aux_lemma => kernel_rfl) (by as_aux_lemma => kernel_rfl) (by as_aux_lemma => kernel_rfl)
    (by as_aux_lemma => kernel_rfl) (by as_aux_lemma => kernel_rfl) (by as_aux_lemma => kernel_rfl) (by as_aux_lemma => kernel_rfl)
    rfl rfl rfl rfl (by as_aux_lemma => kernel_rfl) (by as_aux_lemma => kernel_rfl) (by as_aux_lemma => kernel_rfl) (by as_aux_lemma => kernel_rfl)
theorem over : Rows.fnExactStoreCellRow.holds Try.pinned (OpenSpec.ofChange Rows.fnExactStoreCellSpec) :=
  OpenClaim.holds_of_wide 12 Try.f12 rfl rfl rfl rfl rfl rfl rfl ⟨rfl, rfl, rfl, rfl, rfl⟩ rfl rfl rfl rfl rfl (by as_aux_lemma => kernel_rfl) Try.func12 own_facts
    (of_decide_eq_true (by as_aux_lemma => kernel_rfl)) (by unfold Func.isWrapper; first | (rw [if_pos (by decide +kernel)]; kernel_rfl) | (rw [if_neg (by decide +kernel)]; exact ⟨rfl, rfl⟩))
    (fun os started H enc _ => lifted os started H enc)

theorem proved : Rows.FnExactStoreCellSaid := over
#print axioms proved
end Go.Proofs.Ytnfkkkjookfdiaa.fnExactStoreCell
