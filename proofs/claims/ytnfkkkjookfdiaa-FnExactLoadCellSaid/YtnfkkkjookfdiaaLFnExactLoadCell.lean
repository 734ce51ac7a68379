/- The law 'FnExactLoadCell': for every input the program's function and the reference's agree, so the call returns true and leaves its arguments as they were; no condition. -/
import Derived.Test.YtnfkkkjookfdiaaRows
import Derived.Test.YtnfkkkjookfdiaaHead
import Derived.Test.YtnfkkkjookfdiaaLoaW
import Derived.Test.YtnfkkkjookfdiaaMkC
import Derived.Test.YtnfkkkjookfdiaaBox
import Derived.Test.YtnfkkkjookfdiaaIn3
import Derived.WalkKit
import Derived.ProofKit
import Derived.OpenShut
import Derived.ShutString
import Derived.ChangeOld
import Derived.Below
namespace Go.Proofs.Ytnfkkkjookfdiaa.fnExactLoadCell
open Go.ChangeShapes Go.WideShapes Go.ChangeAt Go.RowKit
set_option linter.unusedVariables false

theorem own : ownKnob Try.prog.godebug = none := by kernel_rfl
theorem laidOut : laidOutB Try.prog = true := by kernel_rfl


set_option maxRecDepth 100000 in
theorem walk (w : World) (G : Geo) (A : ArrE) (hA : ArgArr w A) (D : Adr) :
    Calls Try.prog 9 #[.agg #[.int .i64 G.a, .int .i64 G.b, .int .i64 G.r, .int .i64 G.c], .agg #[.slice A.s0.a A.s0.n A.s0.c, .slice A.s1.a A.s1.n A.s1.c, .slice A.s2.a A.s2.n A.s2.c], .agg #[.int .i64 D.b, .int .i64 D.r, .int .i64 D.c]] w fun e w' => e = .returned (.bool true) ∧ Below w.heap.size w w' := by
  by_cases hsz : (A.d.tot : Int) ≤ 1048576
  · have hs := small_of hsz
    have HA := hid hA
    have HS := hid hs
    have HT := hid (szT_yes hsz)
    have h0 : (0 : Int) ≤ 1048576 - A.d.tot := by omega
    generalize hleft : (1048576 : Int) - A.d.tot = left at h0 HT
    have hdl : decide (left < 0) = false := by simp; omega
    clear hA hs
    clear hleft
    go_enter Try.func9, Try.ntmps9
    go_wp2_with fail
    refine (szArray_any A _ _ (((HA.out.reads.old (below_alloc _ _)).old (below_alloc _ _)).old (below_alloc _ _)) HA.out.ns HA.out.n0 HA.out.n1 HA.out.n2 (by omega) (by omega)).mono ?_
    rintro e w1 ⟨rfl, B1⟩
    rw [HT.out]
    have HB := hid (below_step (below_alloc3 _ _ _ _) B1 (Nat.le_refl _))
    have HXG := hid ((((BoxG.new_ w 31 G (show _ = w.heap.size by simp)).old (below_alloc _ _)).old (below_alloc _ _)).old B1)
    have HXA := hid (((BoxR.new_ (w.alloc _) 34 A (show _ = w.heap.size + 1 by simp)).old (below_alloc _ _)).old B1)
    have HXD := hid ((BoxA.new_ ((w.alloc _).alloc _) 59 D (show _ = w.heap.size + 1 + 1 by simp)).old B1)
    have HR := hid (HA.out.reads.old HB.out)
    clear B1
    go_wp2_with fail
    have HL : Hid ((loadR G D A.d).1.1.length ≤ 1048576) := hid (loadR_len HS.out)
    have hrr : ((loadR G D A.d).2 != (loadR G D A.d).2) = false := by simp
    have hB1 := hid (Below.refl w1.heap.size w1)
    have HB1 := hB1
    clear hB1
    have HXGw := HXG
    have HXAw := HXA
    have HXDw := HXD
    have HRw := HR
    have HBw := HB
    clear HB
    refine grow3_of 11 9 (.bool (loadR G D A.d).2) (fr := ?fr1)
      (fun i v w' => match i with
          | 0 => v = .agg #[.int .i64 G.a, .int .i64 G.b, .int .i64 G.r, .int .i64 G.c]
          | 1 => v = .agg #[.int .i64 G.a, .int .i64 G.b, .int .i64 G.r, .int .i64 G.c]
          | 2 => v = .agg #[.slice A.s0.a A.s0.n A.s0.c, .slice A.s1.a A.s1.n A.s1.c, .slice A.s2.a A.s2.n A.s2.c]
          | 3 => ∃ (A' : ArrE) (U : Nat), v = .agg #[.slice A'.s0.a A'.s0.n A'.s0.c, .slice A'.s1.a A'.s1.n A'.s1.c, .slice A'.s2.a A'.s2.n A'.s2.c] ∧ OwnA w' w1.heap.size U A' ∧ A'.d = A.d
          | 4 => v = .agg #[.int .i64 D.b, .int .i64 D.r, .int .i64 D.c]
          | 5 => v = .agg #[.int .i64 D.b, .int .i64 D.r, .int .i64 D.c]
          | 6 => ∃ (a' : Option Addr) (n' c' : Nat), v = .tuple #[.agg #[.slice a' n' c', .bool (loadR G D A.d).1.2], .bool (loadR G D A.d).2] ∧ OwnS w' w1.heap.size a' n' c' (loadR G D A.d).1.1
          | 7 => ∃ (a' : Option Addr) (n' c' : Nat), v = .tuple #[.agg #[.slice a' n' c', .bool (loadR G D A.d).1.2], .bool (loadR G D A.d).2] ∧ OwnS w' w1.heap.size a' n' c' (loadR G D A.d).1.1
          | 8 => ∃ (a' : Option Addr) (n' c' : Nat), v = .agg #[.slice a' n' c', .bool (loadR G D A.d).1.2] ∧ OwnS w' w1.heap.size a' n' c' (loadR G D A.d).1.1
          | 9 => v = .bool (loadR G D A.d).2
          | _ => ∃ g : Nat, v = .pointer (some ⟨g, 0, none⟩) ∧ w1.heap.size ≤ g ∧ BoxK w' g none 0 0 false)
      (fun vs w' => (∃ (ta : Option Addr) (tn tc : Nat), vs 7 = .tuple #[.agg #[.slice ta tn tc, .bool (loadR G D A.d).1.2], .bool (loadR G D A.d).2]) ∧ ∃ (ya : Option Addr) (yn yc g : Nat), vs 10 = .pointer (some ⟨g, 0, none⟩) ∧ w1.heap.size ≤ g ∧ OwnS w' w1.heap.size ya yn yc (loadR G D A.d).1.1 ∧ BoxK w' g ya yn yc (loadR G D A.d).1.2 ∧ Below w1.heap.size w1 w') (by kernel_rfl) (by kernel_rfl) rfl (by decide) ?hlast1 ?hlbst1 ?hfr1 ⟨fun _ => undef, ?h01⟩ ?hF1 ?hX1 ?hstep1 ?hstore1 ?hlate1 ?hend1
    case hfr1 => intro vs; simp only [frOf, List.take_succ_cons, List.take_zero]; go_simp; exact rfl
    case h01 => rfl
    case hX1 => exact fun v w h => h
    case hlast1 =>
      intro o ho i hi hne
      simp only [List.getElem?_cons_succ, List.getElem?_cons_zero, Option.some.injEq] at ho
      subst ho
      match i, hi, hne with
      | 0, _, _ => show (_ : Bool) = true; kernel_rfl
      | 1, _, _ => show (_ : Bool) = true; kernel_rfl
      | 2, _, _ => show (_ : Bool) = true; kernel_rfl
      | 3, _, _ => show (_ : Bool) = true; kernel_rfl
      | 4, _, _ => show (_ : Bool) = true; kernel_rfl
      | 5, _, _ => show (_ : Bool) = true; kernel_rfl
      | 6, _, _ => show (_ : Bool) = true; kernel_rfl
      | 7, _, _ => show (_ : Bool) = true; kernel_rfl
      | 8, _, _ => show (_ : Bool) = true; kernel_rfl
      | 9, _, hne => exact absurd rfl hne
      | 10, _, _ => show (_ : Bool) = true; kernel_rfl
    case hlbst1 =>
      intro o ho i hi
      simp only [List.getElem?_cons_succ, List.getElem?_cons_zero, Option.some.injEq] at ho
      subst ho
      match i, hi with
      | 0, _ => show (_ : Bool) = true; kernel_rfl
      | 1, _ => show (_ : Bool) = true; kernel_rfl
      | 2, _ => show (_ : Bool) = true; kernel_rfl
      | 3, _ => show (_ : Bool) = true; kernel_rfl
      | 4, _ => show (_ : Bool) = true; kernel_rfl
      | 5, _ => show (_ : Bool) = true; kernel_rfl
      | 6, _ => show (_ : Bool) = true; kernel_rfl
      | 7, _ => show (_ : Bool) = true; kernel_rfl
      | 8, _ => show (_ : Bool) = true; kernel_rfl
      | 9, _ => show (_ : Bool) = true; kernel_rfl
      | 10, _ => show (_ : Bool) = true; kernel_rfl
      | 11, _ => show (_ : Bool) = true; kernel_rfl
    case hF1 =>
      intro i v w' w'' h hb
      match i, h with
      | 0, h => exact h
      | 1, h => exact h
      | 2, h => exact h
      | 3, h => obtain ⟨A', U, e, o, d⟩ := h; exact ⟨A', U, e, o.old hb, d⟩
      | 4, h => exact h
      | 5, h => exact h
      | 6, h => obtain ⟨a', n', c', e, o⟩ := h; exact ⟨a', n', c', e, o.old hb⟩
      | 7, h => obtain ⟨a', n', c', e, o⟩ := h; exact ⟨a', n', c', e, o.old hb⟩
      | 8, h => obtain ⟨a', n', c', e, o⟩ := h; exact ⟨a', n', c', e, o.old hb⟩
      | 9, h => exact h
      | n + 10, h => obtain ⟨g, e, l, o⟩ := h; exact ⟨g, e, l, o.old hb⟩
    case hstep1 =>
      intro vs w' i o hin ho hb hd
      match i, ho, hin with
      | 0, ho, _ =>
        simp only [List.getElem?_cons_zero, Option.some.injEq] at ho
        subst ho
        refine ⟨wanted_none rfl, ?_⟩
        have c0 := (HXG.out.old hb).c0
        have c1 := (HXG.out.old hb).c1
        have c2 := (HXG.out.old hb).c2
        have c3 := (HXG.out.old hb).c3
        generalize hK : (fun (a' : Act) (w'' : World) => ∃ v : Value, _ ∧ _ ∧ _) = K
        go_simp
        rw [← hK]
        exact ⟨_, rfl, rfl, Below.refl _ _⟩
      | 1, ho, _ =>
        simp only [List.getElem?_cons_succ, List.getElem?_cons_zero, Option.some.injEq] at ho
        subst ho
        refine ⟨wanted_none rfl, ?_⟩
        have e0 : Hid (vs 0 = .agg #[.int .i64 G.a, .int .i64 G.b, .int .i64 G.r, .int .i64 G.c]) := hd 0 (by kernel_rfl)
        generalize hK : (fun (a' : Act) (w'' : World) => ∃ v : Value, _ ∧ _ ∧ _) = K
        go_simp
        refine (calls_args (by rw [e0.out]) (toGeometry_any G _)).mono ?_
        rintro e w2 ⟨rfl, B⟩
        rw [← hK]
        exact ⟨_, rfl, rfl, B⟩
      | 2, ho, _ =>
        simp only [List.getElem?_cons_succ, List.getElem?_cons_zero, Option.some.injEq] at ho
        subst ho
        refine ⟨wanted_none rfl, ?_⟩
        have c0 := (HXA.out.old hb).c0
        have c1 := (HXA.out.old hb).c1
        have c2 := (HXA.out.old hb).c2
        generalize hK : (fun (a' : Act) (w'' : World) => ∃ v : Value, _ ∧ _ ∧ _) = K
        go_simp
        rw [← hK]
        exact ⟨_, rfl, rfl, Below.refl _ _⟩
      | 3, ho, _ =>
        simp only [List.getElem?_cons_succ, List.getElem?_cons_zero, Option.some.injEq] at ho
        subst ho
        refine ⟨wanted_none rfl, ?_⟩
        have e0 : Hid (vs 2 = .agg #[.slice A.s0.a A.s0.n A.s0.c, .slice A.s1.a A.s1.n A.s1.c, .slice A.s2.a A.s2.n A.s2.c]) := hd 2 (by kernel_rfl)
        generalize hK : (fun (a' : Act) (w'' : World) => ∃ v : Value, _ ∧ _ ∧ _) = K
        go_simp
        refine (calls_args (by rw [e0.out]) (toArray_any A _ (HR.out.old hb) HS.out)).mono ?_
        rintro e w2 ⟨A', rfl, O, D0, B⟩
        rw [← hK]
        exact ⟨_, rfl, ⟨A', _, rfl, O.mono hb.size, D0⟩, B⟩
      | 4, ho, _ =>
        simp only [List.getElem?_cons_succ, List.getElem?_cons_zero, Option.some.injEq] at ho
        subst ho
        refine ⟨wanted_none rfl, ?_⟩
        have c0 := (HXD.out.old hb).c0
        have c1 := (HXD.out.old hb).c1
        have c2 := (HXD.out.old hb).c2
        generalize hK : (fun (a' : Act) (w'' : World) => ∃ v : Value, _ ∧ _ ∧ _) = K
        go_simp
        rw [← hK]
        exact ⟨_, rfl, rfl, Below.refl _ _⟩
      | 5, ho, _ =>
        simp only [List.getElem?_cons_succ, List.getElem?_cons_zero, Option.some.injEq] at ho
        subst ho
        refine ⟨wanted_none rfl, ?_⟩
        have e0 : Hid (vs 4 = .agg #[.int .i64 D.b, .int .i64 D.r, .int .i64 D.c]) := hd 4 (by kernel_rfl)
        generalize hK : (fun (a' : Act) (w'' : World) => ∃ v : Value, _ ∧ _ ∧ _) = K
        go_simp
        refine (calls_args (by rw [e0.out]) (toAddr_any D _)).mono ?_
        rintro e w2 ⟨rfl, B⟩
        rw [← hK]
        exact ⟨_, rfl, rfl, B⟩
      | 6, ho, _ =>
        simp only [List.getElem?_cons_succ, List.getElem?_cons_zero, Option.some.injEq] at ho
        subst ho
        refine ⟨wanted_none rfl, ?_⟩
        have e1 : Hid (vs 1 = .agg #[.int .i64 G.a, .int .i64 G.b, .int .i64 G.r, .int .i64 G.c]) := hd 1 (by kernel_rfl)
        obtain ⟨A', U, ea', O, D0⟩ := hd 3 (by kernel_rfl)
        have ea := hid ea'
        clear ea'
        have e5 : Hid (vs 5 = .agg #[.int .i64 D.b, .int .i64 D.r, .int .i64 D.c]) := hd 5 (by kernel_rfl)
        generalize hK : (fun (a' : Act) (w'' : World) => ∃ v : Value, _ ∧ _ ∧ _) = K
        go_simp
        refine (calls_args (by rw [e1.out, ea.out, e5.out]) (specLoadCell_any G A' D _ (O.reads) (by rw [D0]; exact HS.out))).mono ?_
        rintro e w2 ⟨xa, xn, xc, rfl, OO, B⟩
        rw [← hK]
        exact ⟨_, rfl, ⟨xa, xn, xc, by rw [D0], by rw [D0] at OO; exact OO.mono hb.size⟩, B⟩
      | 7, ho, _ =>
        simp only [List.getElem?_cons_succ, List.getElem?_cons_zero, Option.some.injEq] at ho
        subst ho
        refine ⟨wanted_none rfl, ?_⟩
        obtain ⟨xa, xn, xc, ev, OO⟩ := hd 6 (by kernel_rfl)
        generalize hK : (fun (a' : Act) (w'' : World) => ∃ v : Value, _ ∧ _ ∧ _) = K
        go_simp
        rw [← hK]
        exact ⟨_, by simp [upd, ev], ⟨xa, xn, xc, rfl, OO⟩, Below.refl _ _⟩
      | 8, ho, _ =>
        simp only [List.getElem?_cons_succ, List.getElem?_cons_zero, Option.some.injEq] at ho
        subst ho
        refine ⟨wanted_none rfl, ?_⟩
        obtain ⟨xa, xn, xc, ev, OO⟩ := hd 7 (by kernel_rfl)
        generalize hK : (fun (a' : Act) (w'' : World) => ∃ v : Value, _ ∧ _ ∧ _) = K
        go_simp
        rw [← hK]
        exact ⟨_, by simp [upd, ev], ⟨xa, xn, xc, rfl, OO⟩, Below.refl _ _⟩
      | 9, ho, _ =>
        simp only [List.getElem?_cons_succ, List.getElem?_cons_zero, Option.some.injEq] at ho
        subst ho
        refine ⟨wanted_none rfl, ?_⟩
        obtain ⟨xa, xn, xc, ev, OO⟩ := hd 7 (by kernel_rfl)
        generalize hK : (fun (a' : Act) (w'' : World) => ∃ v : Value, _ ∧ _ ∧ _) = K
        go_simp
        rw [← hK]
        exact ⟨_, by simp [upd, ev], rfl, Below.refl _ _⟩
      | 10, ho, _ =>
        simp only [List.getElem?_cons_succ, List.getElem?_cons_zero, Option.some.injEq] at ho
        subst ho
        refine ⟨wanted_none rfl, ?_⟩
        generalize hK : (fun (a' : Act) (w'' : World) => ∃ v : Value, _ ∧ _ ∧ _) = K
        go_simp
        rw [← hK]
        exact ⟨_, rfl, ⟨_, rfl, hb.size, BoxK.new _ none 0 0 false⟩, below_alloc _ _⟩
      | n + 11, _, hin => exact absurd hin (by omega)
    case hstore1 =>
      intro vs w' o ho hb hf
      simp only [List.getElem?_cons_succ, List.getElem?_cons_zero, Option.some.injEq] at ho
      subst ho
      refine ⟨wanted_none rfl, ?_⟩
      obtain ⟨ta, tn, tc, et, OT⟩ := hf 7 (by decide) (by decide)
      obtain ⟨ya, yn, yc, er, O⟩ := hf 8 (by decide) (by decide)
      obtain ⟨g, ep, hg, N⟩ := hf 10 (by decide) (by decide)
      have HT2 := hid et
      have HHB := hid hb
      have HO := hid O
      have HN := hid N
      have HHG := hid hg
      clear et OT hb O N hg hf
      have c0 := HN.out.c0
      have c1 := HN.out.c1
      have fr := HN.out.fr
      generalize hK : (fun (a' : Act) (w'' : World) => _ ∧ _ ∧ _) = K
      go_simp
      clear c0 c1 fr
      rw [← hK]
      have K1 := stored2_keeps w' g (.slice ya yn yc) (.bool (loadR G D A.d).1.2)
      exact ⟨by simp [er, ep], ⟨ta, tn, tc, HT2.out⟩, ya, yn, yc, g, ep, HHG.out, HO.out.keeps K1 (fun b hb hS => ints_not HO.out HN.out.hh (by decide) b hb hS), HN.out.stored _ _ _ _, HHB.out.trans (K1.below HHB.out.size (fun q hq hS => by have := HHG.out; omega))⟩
    case hlate1 =>
      intro vs w' o ho hg
      simp only [List.getElem?_cons_succ, List.getElem?_cons_zero, Option.some.injEq] at ho
      subst ho
      refine ⟨wanted_none rfl, ?_⟩
      obtain ⟨⟨ta, tn, tc, et⟩, hg2⟩ := hg
      have HG2 := hid hg2
      clear hg2
      generalize hK : (fun (a' : Act) (w'' : World) => _ ∧ _ ∧ _) = K
      go_simp
      rw [← hK]
      exact ⟨by simp [upd, et], ⟨ta, tn, tc, by simpa [upd] using et⟩, by simpa [upd] using HG2.out⟩
    case hend1 =>
      intro vs w2 o ho hg hx
      simp only [List.getElem?_cons_succ, List.getElem?_cons_zero, Option.some.injEq] at ho
      subst ho
      refine ⟨wanted_none rfl, ?_⟩
      obtain ⟨_, Ya, Yn, Yc, gY, ep, hg1, O, N, hbb⟩ := hg
      generalize vs 9 = ub at hx ⊢
      subst hx
      generalize vs 10 = up at ep ⊢
      subst ep
      have HOY := hid O
      have HXY := hid N
      have HGY := hid hg1
      have HHB := hid hbb
      have HNY : Hid (Yn = (loadR G D A.d).1.1.length) := hid O.length
      clear O N hg1 hbb
      go_simp
      have HB1 := hid (below_step HB1.out HHB.out (Nat.le_refl _))
      clear HHB
      have HXG := hid (HXGw.out.old HB1.out)
      have HXA := hid (HXAw.out.old HB1.out)
      have HXD := hid (HXDw.out.old HB1.out)
      have HR := hid (HRw.out.old HB1.out)
      have c0 := HXA.out.c0
      have c1 := HXA.out.c1
      have c2 := HXA.out.c2
      go_wp2_with fail
      clear c0 c1 c2
      have hiy := fun (b : Nat) (hb : blkS Ya Yn b) => HOY.out.lt hb
      have HIY := hid hiy
      have HLY : Hid (gY < w2.heap.size) := hid HXY.out.lt
      have HSZ2 : Hid (w1.heap.size ≤ w2.heap.size) := hid HB1.out.size
      clear hiy
      refine (toArray_any A _ HR.out HS.out).mono ?_
      rintro e w3 ⟨X, rfl, OX, DX, B⟩
      have HOX := hid OX
      have HDX := hid DX
      have HS23 : Hid (w2.heap.size ≤ w3.heap.size) := hid B.size
      have HOY := hid (HOY.out.old B)
      have HXY := hid (HXY.out.old B)
      have HB1 := hid (below_step HB1.out B (Nat.le_refl _))
      clear B OX DX
      go_wp2_with fail
      refine wp_world (fun w4 hw => ?_)
      have HXX : Hid (BoxV w4 w3.heap.size X) := by rw [hw.out]; exact hid (BoxV.new _ _)
      have B : Below w3.heap.size w3 w4 := by rw [hw.out]; exact below_alloc _ _
      have HOX := hid (HOX.out.old B)
      have HOY := hid (HOY.out.old B)
      have HXY := hid (HXY.out.old B)
      have HB1 := hid (below_step HB1.out B (Nat.le_refl _))
      clear B hw
      have HXG := hid (HXGw.out.old HB1.out)
      have HXA := hid (HXAw.out.old HB1.out)
      have HXD := hid (HXDw.out.old HB1.out)
      have HR := hid (HRw.out.old HB1.out)
      have IZ : Hid (w3.heap.size ≤ w4.heap.size) := hid HOX.out.cells.row.le
      refine grow3_of 10 8 (.bool (loadR G D A.d).2) (fr := ?fr2)
        (fun i v w' => match i with
            | 0 => v = .agg #[.int .i64 G.a, .int .i64 G.b, .int .i64 G.r, .int .i64 G.c]
            | 1 => v = .agg #[.int .i64 G.a, .int .i64 G.b, .int .i64 G.r, .int .i64 G.c]
            | 2 => v = .agg #[.slice X.s0.a X.s0.n X.s0.c, .slice X.s1.a X.s1.n X.s1.c, .slice X.s2.a X.s2.n X.s2.c]
            | 3 => v = .agg #[.int .i64 D.b, .int .i64 D.r, .int .i64 D.c]
            | 4 => v = .agg #[.int .i64 D.b, .int .i64 D.r, .int .i64 D.c]
            | 5 => ∃ (a' : Option Addr) (n' c' : Nat), v = .tuple #[.agg #[.slice a' n' c', .bool (loadR G D A.d).1.2], .bool (loadR G D A.d).2] ∧ OwnS w' w4.heap.size a' n' c' (loadR G D A.d).1.1
            | 6 => ∃ (a' : Option Addr) (n' c' : Nat), v = .tuple #[.agg #[.slice a' n' c', .bool (loadR G D A.d).1.2], .bool (loadR G D A.d).2] ∧ OwnS w' w4.heap.size a' n' c' (loadR G D A.d).1.1
            | 7 => ∃ (a' : Option Addr) (n' c' : Nat), v = .agg #[.slice a' n' c', .bool (loadR G D A.d).1.2] ∧ OwnS w' w4.heap.size a' n' c' (loadR G D A.d).1.1
            | 8 => v = .bool (loadR G D A.d).2
            | _ => ∃ g : Nat, v = .pointer (some ⟨g, 0, none⟩) ∧ w4.heap.size ≤ g ∧ BoxK w' g none 0 0 false)
        (fun vs w' => (∃ (ta : Option Addr) (tn tc : Nat), vs 6 = .tuple #[.agg #[.slice ta tn tc, .bool (loadR G D A.d).1.2], .bool (loadR G D A.d).2]) ∧ ∃ (ya : Option Addr) (yn yc g : Nat), vs 9 = .pointer (some ⟨g, 0, none⟩) ∧ w4.heap.size ≤ g ∧ OwnS w' w4.heap.size ya yn yc (loadR G D A.d).1.1 ∧ BoxK w' g ya yn yc (loadR G D A.d).1.2 ∧ Below w4.heap.size w4 w') (by kernel_rfl) (by kernel_rfl) rfl (by decide) ?hlast2 ?hlbst2 ?hfr2 ⟨fun _ => undef, ?h02⟩ ?hF2 ?hX2 ?hstep2 ?hstore2 ?hlate2 ?hend2
      case hfr2 => intro vs; simp only [frOf, List.take_succ_cons, List.take_zero]; go_simp; exact rfl
      case h02 => rfl
      case hX2 => exact fun v w h => h
      case hlast2 =>
        intro o ho i hi hne
        simp only [List.getElem?_cons_succ, List.getElem?_cons_zero, Option.some.injEq] at ho
        subst ho
        match i, hi, hne with
        | 0, _, _ => show (_ : Bool) = true; kernel_rfl
        | 1, _, _ => show (_ : Bool) = true; kernel_rfl
        | 2, _, _ => show (_ : Bool) = true; kernel_rfl
        | 3, _, _ => show (_ : Bool) = true; kernel_rfl
        | 4, _, _ => show (_ : Bool) = true; kernel_rfl
        | 5, _, _ => show (_ : Bool) = true; kernel_rfl
        | 6, _, _ => show (_ : Bool) = true; kernel_rfl
        | 7, _, _ => show (_ : Bool) = true; kernel_rfl
        | 8, _, hne => exact absurd rfl hne
        | 9, _, _ => show (_ : Bool) = true; kernel_rfl
      case hlbst2 =>
        intro o ho i hi
        simp only [List.getElem?_cons_succ, List.getElem?_cons_zero, Option.some.injEq] at ho
        subst ho
        match i, hi with
        | 0, _ => show (_ : Bool) = true; kernel_rfl
        | 1, _ => show (_ : Bool) = true; kernel_rfl
        | 2, _ => show (_ : Bool) = true; kernel_rfl
        | 3, _ => show (_ : Bool) = true; kernel_rfl
        | 4, _ => show (_ : Bool) = true; kernel_rfl
        | 5, _ => show (_ : Bool) = true; kernel_rfl
        | 6, _ => show (_ : Bool) = true; kernel_rfl
        | 7, _ => show (_ : Bool) = true; kernel_rfl
        | 8, _ => show (_ : Bool) = true; kernel_rfl
        | 9, _ => show (_ : Bool) = true; kernel_rfl
        | 10, _ => show (_ : Bool) = true; kernel_rfl
      case hF2 =>
        intro i v w' w'' h hb
        match i, h with
        | 0, h => exact h
        | 1, h => exact h
        | 2, h => exact h
        | 3, h => exact h
        | 4, h => exact h
        | 5, h => obtain ⟨a', n', c', e, o⟩ := h; exact ⟨a', n', c', e, o.old hb⟩
        | 6, h => obtain ⟨a', n', c', e, o⟩ := h; exact ⟨a', n', c', e, o.old hb⟩
        | 7, h => obtain ⟨a', n', c', e, o⟩ := h; exact ⟨a', n', c', e, o.old hb⟩
        | 8, h => exact h
        | n + 9, h => obtain ⟨g, e, l, o⟩ := h; exact ⟨g, e, l, o.old hb⟩
      case hstep2 =>
        intro vs w' i o hin ho hb hd
        match i, ho, hin with
        | 0, ho, _ =>
          simp only [List.getElem?_cons_zero, Option.some.injEq] at ho
          subst ho
          refine ⟨wanted_none rfl, ?_⟩
          have c0 := (HXG.out.old hb).c0
          have c1 := (HXG.out.old hb).c1
          have c2 := (HXG.out.old hb).c2
          have c3 := (HXG.out.old hb).c3
          generalize hK : (fun (a' : Act) (w'' : World) => ∃ v : Value, _ ∧ _ ∧ _) = K
          go_simp
          rw [← hK]
          exact ⟨_, rfl, rfl, Below.refl _ _⟩
        | 1, ho, _ =>
          simp only [List.getElem?_cons_succ, List.getElem?_cons_zero, Option.some.injEq] at ho
          subst ho
          refine ⟨wanted_none rfl, ?_⟩
          have e0 : Hid (vs 0 = .agg #[.int .i64 G.a, .int .i64 G.b, .int .i64 G.r, .int .i64 G.c]) := hd 0 (by kernel_rfl)
          generalize hK : (fun (a' : Act) (w'' : World) => ∃ v : Value, _ ∧ _ ∧ _) = K
          go_simp
          refine (calls_args (by rw [e0.out]) (toGeometry_any G _)).mono ?_
          rintro e w2 ⟨rfl, B⟩
          rw [← hK]
          exact ⟨_, rfl, rfl, B⟩
        | 2, ho, _ =>
          simp only [List.getElem?_cons_succ, List.getElem?_cons_zero, Option.some.injEq] at ho
          subst ho
          refine ⟨wanted_none rfl, ?_⟩
          have c0 := (HXX.out.old hb).c0
          have c1 := (HXX.out.old hb).c1
          have c2 := (HXX.out.old hb).c2
          generalize hK : (fun (a' : Act) (w'' : World) => ∃ v : Value, _ ∧ _ ∧ _) = K
          go_simp
          rw [← hK]
          exact ⟨_, rfl, rfl, Below.refl _ _⟩
        | 3, ho, _ =>
          simp only [List.getElem?_cons_succ, List.getElem?_cons_zero, Option.some.injEq] at ho
          subst ho
          refine ⟨wanted_none rfl, ?_⟩
          have c0 := (HXD.out.old hb).c0
          have c1 := (HXD.out.old hb).c1
          have c2 := (HXD.out.old hb).c2
          generalize hK : (fun (a' : Act) (w'' : World) => ∃ v : Value, _ ∧ _ ∧ _) = K
          go_simp
          rw [← hK]
          exact ⟨_, rfl, rfl, Below.refl _ _⟩
        | 4, ho, _ =>
          simp only [List.getElem?_cons_succ, List.getElem?_cons_zero, Option.some.injEq] at ho
          subst ho
          refine ⟨wanted_none rfl, ?_⟩
          have e0 : Hid (vs 3 = .agg #[.int .i64 D.b, .int .i64 D.r, .int .i64 D.c]) := hd 3 (by kernel_rfl)
          generalize hK : (fun (a' : Act) (w'' : World) => ∃ v : Value, _ ∧ _ ∧ _) = K
          go_simp
          refine (calls_args (by rw [e0.out]) (toAddr_any D _)).mono ?_
          rintro e w2 ⟨rfl, B⟩
          rw [← hK]
          exact ⟨_, rfl, rfl, B⟩
        | 5, ho, _ =>
          simp only [List.getElem?_cons_succ, List.getElem?_cons_zero, Option.some.injEq] at ho
          subst ho
          refine ⟨wanted_none rfl, ?_⟩
          have e1 : Hid (vs 1 = .agg #[.int .i64 G.a, .int .i64 G.b, .int .i64 G.r, .int .i64 G.c]) := hd 1 (by kernel_rfl)
          have ea : Hid (vs 2 = .agg #[.slice X.s0.a X.s0.n X.s0.c, .slice X.s1.a X.s1.n X.s1.c, .slice X.s2.a X.s2.n X.s2.c]) := hd 2 (by kernel_rfl)
          have e4 : Hid (vs 4 = .agg #[.int .i64 D.b, .int .i64 D.r, .int .i64 D.c]) := hd 4 (by kernel_rfl)
          generalize hK : (fun (a' : Act) (w'' : World) => ∃ v : Value, _ ∧ _ ∧ _) = K
          go_simp
          refine (calls_args (by rw [e1.out, ea.out, e4.out]) (implLoadCell_any G X D _ (HOX.out.reads.old hb) (by rw [HDX.out]; exact HS.out))).mono ?_
          rintro e w2 ⟨xa, xn, xc, rfl, OO, B⟩
          rw [← hK]
          exact ⟨_, rfl, ⟨xa, xn, xc, by rw [HDX.out], by rw [HDX.out] at OO; exact OO.mono hb.size⟩, B⟩
        | 6, ho, _ =>
          simp only [List.getElem?_cons_succ, List.getElem?_cons_zero, Option.some.injEq] at ho
          subst ho
          refine ⟨wanted_none rfl, ?_⟩
          obtain ⟨xa, xn, xc, ev, OO⟩ := hd 5 (by kernel_rfl)
          generalize hK : (fun (a' : Act) (w'' : World) => ∃ v : Value, _ ∧ _ ∧ _) = K
          go_simp
          rw [← hK]
          exact ⟨_, by simp [upd, ev], ⟨xa, xn, xc, rfl, OO⟩, Below.refl _ _⟩
        | 7, ho, _ =>
          simp only [List.getElem?_cons_succ, List.getElem?_cons_zero, Option.some.injEq] at ho
          subst ho
          refine ⟨wanted_none rfl, ?_⟩
          obtain ⟨xa, xn, xc, ev, OO⟩ := hd 6 (by kernel_rfl)
          generalize hK : (fun (a' : Act) (w'' : World) => ∃ v : Value, _ ∧ _ ∧ _) = K
          go_simp
          rw [← hK]
          exact ⟨_, by simp [upd, ev], ⟨xa, xn, xc, rfl, OO⟩, Below.refl _ _⟩
        | 8, ho, _ =>
          simp only [List.getElem?_cons_succ, List.getElem?_cons_zero, Option.some.injEq] at ho
          subst ho
          refine ⟨wanted_none rfl, ?_⟩
          obtain ⟨xa, xn, xc, ev, OO⟩ := hd 6 (by kernel_rfl)
          generalize hK : (fun (a' : Act) (w'' : World) => ∃ v : Value, _ ∧ _ ∧ _) = K
          go_simp
          rw [← hK]
          exact ⟨_, by simp [upd, ev], rfl, Below.refl _ _⟩
        | 9, ho, _ =>
          simp only [List.getElem?_cons_succ, List.getElem?_cons_zero, Option.some.injEq] at ho
          subst ho
          refine ⟨wanted_none rfl, ?_⟩
          generalize hK : (fun (a' : Act) (w'' : World) => ∃ v : Value, _ ∧ _ ∧ _) = K
          go_simp
          rw [← hK]
          exact ⟨_, rfl, ⟨_, rfl, hb.size, BoxK.new _ none 0 0 false⟩, below_alloc _ _⟩
        | n + 10, _, hin => exact absurd hin (by omega)
      case hstore2 =>
        intro vs w' o ho hb hf
        simp only [List.getElem?_cons_succ, List.getElem?_cons_zero, Option.some.injEq] at ho
        subst ho
        refine ⟨wanted_none rfl, ?_⟩
        obtain ⟨ta, tn, tc, et, OT⟩ := hf 6 (by decide) (by decide)
        obtain ⟨ya, yn, yc, er, O⟩ := hf 7 (by decide) (by decide)
        obtain ⟨g, ep, hg, N⟩ := hf 9 (by decide) (by decide)
        have HT2 := hid et
        have HHB := hid hb
        have HO := hid O
        have HN := hid N
        have HHG := hid hg
        clear et OT hb O N hg hf
        have c0 := HN.out.c0
        have c1 := HN.out.c1
        have fr := HN.out.fr
        generalize hK : (fun (a' : Act) (w'' : World) => _ ∧ _ ∧ _) = K
        go_simp
        clear c0 c1 fr
        rw [← hK]
        have K1 := stored2_keeps w' g (.slice ya yn yc) (.bool (loadR G D A.d).1.2)
        exact ⟨by simp [er, ep], ⟨ta, tn, tc, HT2.out⟩, ya, yn, yc, g, ep, HHG.out, HO.out.keeps K1 (fun b hb hS => ints_not HO.out HN.out.hh (by decide) b hb hS), HN.out.stored _ _ _ _, HHB.out.trans (K1.below HHB.out.size (fun q hq hS => by have := HHG.out; omega))⟩
      case hlate2 =>
        intro vs w' o ho hg
        simp only [List.getElem?_cons_succ, List.getElem?_cons_zero, Option.some.injEq] at ho
        subst ho
        refine ⟨wanted_none rfl, ?_⟩
        obtain ⟨⟨ta, tn, tc, et⟩, hg2⟩ := hg
        have HG2 := hid hg2
        clear hg2
        generalize hK : (fun (a' : Act) (w'' : World) => _ ∧ _ ∧ _) = K
        go_simp
        rw [← hK]
        exact ⟨by simp [upd, et], ⟨ta, tn, tc, by simpa [upd] using et⟩, by simpa [upd] using HG2.out⟩
      case hend2 =>
        intro vs w5 o ho hg hx
        simp only [List.getElem?_cons_succ, List.getElem?_cons_zero, Option.some.injEq] at ho
        subst ho
        refine ⟨wanted_none rfl, ?_⟩
        obtain ⟨_, Za, Zn, Zc, gZ, ep, hg1, O, N, hbb⟩ := hg
        generalize vs 8 = ub at hx ⊢
        subst hx
        generalize vs 9 = up at ep ⊢
        subst ep
        have HOZ := hid O
        have HXZ := hid N
        have HGZ := hid hg1
        have HHB := hid hbb
        have HNZ : Hid (Zn = (loadR G D A.d).1.1.length) := hid O.length
        clear O N hg1 hbb
        go_simp
        have HOY := hid (HOY.out.old HHB.out)
        have HXY := hid (HXY.out.old HHB.out)
        have HOX := hid (HOX.out.old HHB.out)
        have HXX := hid (HXX.out.old HHB.out)
        have HB1 := hid (below_step HB1.out HHB.out (Nat.le_refl _))
        clear HHB
        have cZ0 := HXZ.out.c0
        have cZ1 := HXZ.out.c1
        have cY0 := HXY.out.c0
        have cY1 := HXY.out.c1
        go_wp2_with fail
        clear cZ0 cZ1 cY0 cY1
        refine (eqCell_same Za Ya Zn Yn Zc Yc (loadR G D A.d).1.1 (loadR G D A.d).1.2 _ HOZ.out.reads HOY.out.reads HNZ.out HNY.out HL.out).mono ?_
        rintro e w6 ⟨rfl, B⟩
        have HOY := hid (HOY.out.old B)
        have HXY := hid (HXY.out.old B)
        have HOX := hid (HOX.out.old B)
        have HXX := hid (HXX.out.old B)
        have HOZ := hid (HOZ.out.old B)
        have HXZ := hid (HXZ.out.old B)
        have HB1 := hid (below_step HB1.out B (Nat.le_refl _))
        clear B
        go_wp2_with fail
        have HXG := hid (HXGw.out.old HB1.out)
        have HXA := hid (HXAw.out.old HB1.out)
        have HXD := hid (HXDw.out.old HB1.out)
        have HR := hid (HRw.out.old HB1.out)
        refine grows_of (fr := ?fr3)
          (fun i v w' => match i with
              | 0 => v = .agg #[.slice X.s0.a X.s0.n X.s0.c, .slice X.s1.a X.s1.n X.s1.c, .slice X.s2.a X.s2.n X.s2.c]
              | 1 => v = .agg #[.slice A.s0.a A.s0.n A.s0.c, .slice A.s1.a A.s1.n A.s1.c, .slice A.s2.a A.s2.n A.s2.c]
              | 2 => ∃ (A' : ArrE) (U : Nat), v = .agg #[.slice A'.s0.a A'.s0.n A'.s0.c, .slice A'.s1.a A'.s1.n A'.s1.c, .slice A'.s2.a A'.s2.n A'.s2.c] ∧ OwnA w' w6.heap.size U A' ∧ A'.d = A.d
              | 3 => v = .bool true
              | _ => v = .bool false) (by kernel_rfl) (by kernel_rfl) ?hfr3 ⟨fun _ => undef, ?h03⟩ ?hF3 ?hstep3 ?hend3
        case hfr3 => intro vs; simp only [frOf]; go_simp; exact rfl
        case h03 => rfl
        case hF3 =>
          intro i v w' w'' h hb
          match i, h with
          | 0, h => exact h
          | 1, h => exact h
          | 2, h => obtain ⟨A', U, e, o, d⟩ := h; exact ⟨A', U, e, o.old hb, d⟩
          | 3, h => exact h
          | n + 4, h => exact h
        case hstep3 =>
          intro vs w' i o ho hb hd
          match i, ho with
          | 0, ho =>
            simp only [List.getElem?_cons_zero, Option.some.injEq] at ho
            subst ho
            refine ⟨wanted_none rfl, ?_⟩
            have c0 := (HXX.out.old hb).c0
            have c1 := (HXX.out.old hb).c1
            have c2 := (HXX.out.old hb).c2
            generalize hK : (fun (a' : Act) (w'' : World) => ∃ v : Value, _ ∧ _ ∧ _) = K
            go_simp
            rw [← hK]
            exact ⟨_, rfl, rfl, Below.refl _ _⟩
          | 1, ho =>
            simp only [List.getElem?_cons_succ, List.getElem?_cons_zero, Option.some.injEq] at ho
            subst ho
            refine ⟨wanted_none rfl, ?_⟩
            have c0 := (HXA.out.old hb).c0
            have c1 := (HXA.out.old hb).c1
            have c2 := (HXA.out.old hb).c2
            generalize hK : (fun (a' : Act) (w'' : World) => ∃ v : Value, _ ∧ _ ∧ _) = K
            go_simp
            rw [← hK]
            exact ⟨_, rfl, rfl, Below.refl _ _⟩
          | 2, ho =>
            simp only [List.getElem?_cons_succ, List.getElem?_cons_zero, Option.some.injEq] at ho
            subst ho
            refine ⟨wanted_none rfl, ?_⟩
            have e0 : Hid (vs 1 = .agg #[.slice A.s0.a A.s0.n A.s0.c, .slice A.s1.a A.s1.n A.s1.c, .slice A.s2.a A.s2.n A.s2.c]) := hd 1 (by kernel_rfl)
            generalize hK : (fun (a' : Act) (w'' : World) => ∃ v : Value, _ ∧ _ ∧ _) = K
            go_simp
            refine (calls_args (by rw [e0.out]) (toArray_any A _ (HR.out.old hb) HS.out)).mono ?_
            rintro e w2 ⟨A', rfl, O, D0, B⟩
            rw [← hK]
            exact ⟨_, rfl, ⟨A', _, rfl, O.mono hb.size, D0⟩, B⟩
          | 3, ho =>
            simp only [List.getElem?_cons_succ, List.getElem?_cons_zero, Option.some.injEq] at ho
            subst ho
            refine ⟨wanted_none rfl, ?_⟩
            have e0 : Hid (vs 0 = .agg #[.slice X.s0.a X.s0.n X.s0.c, .slice X.s1.a X.s1.n X.s1.c, .slice X.s2.a X.s2.n X.s2.c]) := hd 0 (by kernel_rfl)
            obtain ⟨A', U, ea', O, D0⟩ := hd 2 (by kernel_rfl)
            have ea := hid ea'
            clear ea'
            generalize hK : (fun (a' : Act) (w'' : World) => ∃ v : Value, _ ∧ _ ∧ _) = K
            go_simp
            refine (calls_args (by rw [e0.out, ea.out]) (eqArray_same X A' _ (HOX.out.reads.old hb) O.reads (by rw [HDX.out, D0]) (by rw [HDX.out]; exact HS.out))).mono ?_
            rintro e w2 ⟨rfl, B⟩
            rw [← hK]
            exact ⟨_, rfl, rfl, B⟩
          | 4, ho =>
            simp only [List.getElem?_cons_succ, List.getElem?_cons_zero, Option.some.injEq] at ho
            subst ho
            refine ⟨wanted_none rfl, ?_⟩
            have e3 : vs 3 = .bool true := hd 3 (by kernel_rfl)
            generalize hK : (fun (a' : Act) (w'' : World) => ∃ v : Value, _ ∧ _ ∧ _) = K
            go_simp
            rw [← hK]
            exact ⟨_, by simp [upd, e3], rfl, Below.refl _ _⟩
          | n + 5, ho => simp at ho
        case hend3 =>
          intro vs w7 hb hf
          have er : vs 4 = .bool false := hf 4 (by decide)
          have HOY := hid (HOY.out.old hb)
          have HXY := hid (HXY.out.old hb)
          have HOX := hid (HOX.out.old hb)
          have HXX := hid (HXX.out.old hb)
          have HOZ := hid (HOZ.out.old hb)
          have HXZ := hid (HXZ.out.old hb)
          have HB1 := hid (below_step HB1.out hb (Nat.le_refl _))
          clear hb hf
          generalize vs 4 = ur at er ⊢
          subst er
          have t0 : (0 : Int) ≤ 1 + A.d.tot := by omega
          generalize ht1 : (1 : Int) + A.d.tot = t1 at t0
          have HT1 := hid ht1
          clear ht1
          have dt1 : decide (t1 < 0) = false := by simp; omega
          have cX0 := HXX.out.c0
          have cX1 := HXX.out.c1
          have cX2 := HXX.out.c2
          go_wp2_with fail
          clear cX0 cX1 cX2
          refine (markArray_any X _ _ 1 _ HOX.out (by rw [HDX.out]; exact HS.out) (by decide) (by decide)).mono ?_
          rintro e w8 ⟨es', rfl, OM, DM, KM⟩
          rw [HDX.out, HT1.out]
          have KM := hid KM
          have HOY2 := hid (HOY.out.keeps KM.out (fun b hb hS => by have := (HOX.out.inA_in hS).1; have := (HIY.out b hb).2; omega))
          have HXY2 := hid (HXY.out.keeps KM.out (fun hS => by have := (HOX.out.inA_in hS).1; have := HLY.out; omega))
          have HOZ2 := hid (HOZ.out.keeps KM.out (fun b hb hS => by have := (HOX.out.inA_in hS).2; have := (HOZ.out.lt hb).1; have := IZ.out; omega))
          have HXZ2 := hid (HXZ.out.keeps KM.out (fun hS => by have := (HOX.out.inA_in hS).2; have := HGZ.out; have := IZ.out; omega))
          have HB1 := hid (HB1.out.trans (KM.out.below HB1.out.size (fun q hq hS => by have := (HOX.out.inA_in hS).1; have := HSZ2.out; omega)))
          clear OM DM KM HOY HXY HOZ HXZ HOX HXX
          have HOY := HOY2
          have HXY := HXY2
          have HOZ := HOZ2
          have HXZ := HXZ2
          clear HOY2 HXY2 HOZ2 HXZ2
          have cZ0 := HXZ.out.c0
          have cZ1 := HXZ.out.c1
          have cY0 := HXY.out.c0
          have cY1 := HXY.out.c1
          go_wp2_with fail
          clear cZ0 cZ1 cY0 cY1
          refine (eqCell_same Za Ya Zn Yn Zc Yc (loadR G D A.d).1.1 (loadR G D A.d).1.2 _ HOZ.out.reads HOY.out.reads HNZ.out HNY.out HL.out).mono ?_
          rintro e w9 ⟨rfl, B⟩
          have HOY := hid (HOY.out.old B)
          have HXY := hid (HXY.out.old B)
          have HOZ := hid (HOZ.out.old B)
          have HXZ := hid (HXZ.out.old B)
          have HB1 := hid (below_step HB1.out B (Nat.le_refl _))
          clear B
          have hZl : Zn ≤ 1048576 := by have := HNZ.out; have := HL.out; omega
          have dt2 : decide (1 + (Zn : Int) < 0) = false := by simp; omega
          have cZ0 := HXZ.out.c0
          have cZ1 := HXZ.out.c1
          go_wp2_with fail
          clear cZ0 cZ1
          refine (markCell_any Za Zn Zc _ 1 (loadR G D A.d).1.1 _ _ HOZ.out hZl (by decide) (by decide)).mono ?_
          rintro e w10 ⟨rfl, OM, KM⟩
          have KM := hid KM
          have HOY2 := hid (HOY.out.keeps KM.out (fun b hb hS => by have := (HOZ.out.lt hS).1; have := (HIY.out b hb).2; have := HS23.out; have := IZ.out; omega))
          have HXY2 := hid (HXY.out.keeps KM.out (fun hS => by have := (HOZ.out.lt hS).1; have := HLY.out; have := HS23.out; have := IZ.out; omega))
          have HXZ2 := hid (HXZ.out.keeps KM.out (fun hS => ints_not HOZ.out HXZ.out.hh (by decide) _ hS rfl))
          have HB1 := hid (HB1.out.trans (KM.out.below HB1.out.size (fun q hq hS => by have := (HOZ.out.lt hS).1; have := HSZ2.out; have := HS23.out; have := IZ.out; omega)))
          have HOZ2 := hid OM
          clear OM KM HOY HXY HOZ HXZ
          have HOY := HOY2
          have HXY := HXY2
          have HOZ := HOZ2
          have HXZ := HXZ2
          clear HOY2 HXY2 HXZ2 HOZ2
          have cZ0 := HXZ.out.c0
          have cZ1 := HXZ.out.c1
          go_wp2_with fail
          clear cZ0 cZ1
          refine (heldCell_any Za Zn Zc 1 _ _ HOZ.out.reads hZl (by decide) (by decide)).mono ?_
          rintro e w11 ⟨rfl, B⟩
          have HOY := hid (HOY.out.old B)
          have HXY := hid (HXY.out.old B)
          have HOZ := hid (HOZ.out.old B)
          have HXZ := hid (HXZ.out.old B)
          have HB1 := hid (below_step HB1.out B (Nat.le_refl _))
          clear B
          go_wp2_with fail
          have HXG := hid (HXGw.out.old HB1.out)
          have HXA := hid (HXAw.out.old HB1.out)
          have HXD := hid (HXDw.out.old HB1.out)
          have HR := hid (HRw.out.old HB1.out)
          refine grow3_of 11 9 (.bool (loadR G D A.d).2) (fr := ?fr4)
            (fun i v w' => match i with
                | 0 => v = .agg #[.int .i64 G.a, .int .i64 G.b, .int .i64 G.r, .int .i64 G.c]
                | 1 => v = .agg #[.int .i64 G.a, .int .i64 G.b, .int .i64 G.r, .int .i64 G.c]
                | 2 => v = .agg #[.slice A.s0.a A.s0.n A.s0.c, .slice A.s1.a A.s1.n A.s1.c, .slice A.s2.a A.s2.n A.s2.c]
                | 3 => ∃ (A' : ArrE) (U : Nat), v = .agg #[.slice A'.s0.a A'.s0.n A'.s0.c, .slice A'.s1.a A'.s1.n A'.s1.c, .slice A'.s2.a A'.s2.n A'.s2.c] ∧ OwnA w' w11.heap.size U A' ∧ A'.d = A.d
                | 4 => v = .agg #[.int .i64 D.b, .int .i64 D.r, .int .i64 D.c]
                | 5 => v = .agg #[.int .i64 D.b, .int .i64 D.r, .int .i64 D.c]
                | 6 => ∃ (a' : Option Addr) (n' c' : Nat), v = .tuple #[.agg #[.slice a' n' c', .bool (loadR G D A.d).1.2], .bool (loadR G D A.d).2] ∧ OwnS w' w11.heap.size a' n' c' (loadR G D A.d).1.1
                | 7 => ∃ (a' : Option Addr) (n' c' : Nat), v = .tuple #[.agg #[.slice a' n' c', .bool (loadR G D A.d).1.2], .bool (loadR G D A.d).2] ∧ OwnS w' w11.heap.size a' n' c' (loadR G D A.d).1.1
                | 8 => ∃ (a' : Option Addr) (n' c' : Nat), v = .agg #[.slice a' n' c', .bool (loadR G D A.d).1.2] ∧ OwnS w' w11.heap.size a' n' c' (loadR G D A.d).1.1
                | 9 => v = .bool (loadR G D A.d).2
                | _ => ∃ g : Nat, v = .pointer (some ⟨g, 0, none⟩) ∧ w11.heap.size ≤ g ∧ BoxK w' g none 0 0 false)
            (fun vs w' => (∃ (ta : Option Addr) (tn tc : Nat), vs 7 = .tuple #[.agg #[.slice ta tn tc, .bool (loadR G D A.d).1.2], .bool (loadR G D A.d).2]) ∧ ∃ (ya : Option Addr) (yn yc g : Nat), vs 10 = .pointer (some ⟨g, 0, none⟩) ∧ w11.heap.size ≤ g ∧ OwnS w' w11.heap.size ya yn yc (loadR G D A.d).1.1 ∧ BoxK w' g ya yn yc (loadR G D A.d).1.2 ∧ Below w11.heap.size w11 w') (by kernel_rfl) (by kernel_rfl) rfl (by decide) ?hlast4 ?hlbst4 ?hfr4 ⟨fun _ => undef, ?h04⟩ ?hF4 ?hX4 ?hstep4 ?hstore4 ?hlate4 ?hend4
          case hfr4 => intro vs; simp only [frOf, List.take_succ_cons, List.take_zero]; go_simp; exact rfl
          case h04 => rfl
          case hX4 => exact fun v w h => h
          case hlast4 =>
            intro o ho i hi hne
            simp only [List.getElem?_cons_succ, List.getElem?_cons_zero, Option.some.injEq] at ho
            subst ho
            match i, hi, hne with
            | 0, _, _ => show (_ : Bool) = true; kernel_rfl
            | 1, _, _ => show (_ : Bool) = true; kernel_rfl
            | 2, _, _ => show (_ : Bool) = true; kernel_rfl
            | 3, _, _ => show (_ : Bool) = true; kernel_rfl
            | 4, _, _ => show (_ : Bool) = true; kernel_rfl
            | 5, _, _ => show (_ : Bool) = true; kernel_rfl
            | 6, _, _ => show (_ : Bool) = true; kernel_rfl
            | 7, _, _ => show (_ : Bool) = true; kernel_rfl
            | 8, _, _ => show (_ : Bool) = true; kernel_rfl
            | 9, _, hne => exact absurd rfl hne
            | 10, _, _ => show (_ : Bool) = true; kernel_rfl
          case hlbst4 =>
            intro o ho i hi
            simp only [List.getElem?_cons_succ, List.getElem?_cons_zero, Option.some.injEq] at ho
            subst ho
            match i, hi with
            | 0, _ => show (_ : Bool) = true; kernel_rfl
            | 1, _ => show (_ : Bool) = true; kernel_rfl
            | 2, _ => show (_ : Bool) = true; kernel_rfl
            | 3, _ => show (_ : Bool) = true; kernel_rfl
            | 4, _ => show (_ : Bool) = true; kernel_rfl
            | 5, _ => show (_ : Bool) = true; kernel_rfl
            | 6, _ => show (_ : Bool) = true; kernel_rfl
            | 7, _ => show (_ : Bool) = true; kernel_rfl
            | 8, _ => show (_ : Bool) = true; kernel_rfl
            | 9, _ => show (_ : Bool) = true; kernel_rfl
            | 10, _ => show (_ : Bool) = true; kernel_rfl
            | 11, _ => show (_ : Bool) = true; kernel_rfl
          case hF4 =>
            intro i v w' w'' h hb
            match i, h with
            | 0, h => exact h
            | 1, h => exact h
            | 2, h => exact h
            | 3, h => obtain ⟨A', U, e, o, d⟩ := h; exact ⟨A', U, e, o.old hb, d⟩
            | 4, h => exact h
            | 5, h => exact h
            | 6, h => obtain ⟨a', n', c', e, o⟩ := h; exact ⟨a', n', c', e, o.old hb⟩
            | 7, h => obtain ⟨a', n', c', e, o⟩ := h; exact ⟨a', n', c', e, o.old hb⟩
            | 8, h => obtain ⟨a', n', c', e, o⟩ := h; exact ⟨a', n', c', e, o.old hb⟩
            | 9, h => exact h
            | n + 10, h => obtain ⟨g, e, l, o⟩ := h; exact ⟨g, e, l, o.old hb⟩
          case hstep4 =>
            intro vs w' i o hin ho hb hd
            match i, ho, hin with
            | 0, ho, _ =>
              simp only [List.getElem?_cons_zero, Option.some.injEq] at ho
              subst ho
              refine ⟨wanted_none rfl, ?_⟩
              have c0 := (HXG.out.old hb).c0
              have c1 := (HXG.out.old hb).c1
              have c2 := (HXG.out.old hb).c2
              have c3 := (HXG.out.old hb).c3
              generalize hK : (fun (a' : Act) (w'' : World) => ∃ v : Value, _ ∧ _ ∧ _) = K
              go_simp
              rw [← hK]
              exact ⟨_, rfl, rfl, Below.refl _ _⟩
            | 1, ho, _ =>
              simp only [List.getElem?_cons_succ, List.getElem?_cons_zero, Option.some.injEq] at ho
              subst ho
              refine ⟨wanted_none rfl, ?_⟩
              have e0 : Hid (vs 0 = .agg #[.int .i64 G.a, .int .i64 G.b, .int .i64 G.r, .int .i64 G.c]) := hd 0 (by kernel_rfl)
              generalize hK : (fun (a' : Act) (w'' : World) => ∃ v : Value, _ ∧ _ ∧ _) = K
              go_simp
              refine (calls_args (by rw [e0.out]) (toGeometry_any G _)).mono ?_
              rintro e w2 ⟨rfl, B⟩
              rw [← hK]
              exact ⟨_, rfl, rfl, B⟩
            | 2, ho, _ =>
              simp only [List.getElem?_cons_succ, List.getElem?_cons_zero, Option.some.injEq] at ho
              subst ho
              refine ⟨wanted_none rfl, ?_⟩
              have c0 := (HXA.out.old hb).c0
              have c1 := (HXA.out.old hb).c1
              have c2 := (HXA.out.old hb).c2
              generalize hK : (fun (a' : Act) (w'' : World) => ∃ v : Value, _ ∧ _ ∧ _) = K
              go_simp
              rw [← hK]
              exact ⟨_, rfl, rfl, Below.refl _ _⟩
            | 3, ho, _ =>
              simp only [List.getElem?_cons_succ, List.getElem?_cons_zero, Option.some.injEq] at ho
              subst ho
              refine ⟨wanted_none rfl, ?_⟩
              have e0 : Hid (vs 2 = .agg #[.slice A.s0.a A.s0.n A.s0.c, .slice A.s1.a A.s1.n A.s1.c, .slice A.s2.a A.s2.n A.s2.c]) := hd 2 (by kernel_rfl)
              generalize hK : (fun (a' : Act) (w'' : World) => ∃ v : Value, _ ∧ _ ∧ _) = K
              go_simp
              refine (calls_args (by rw [e0.out]) (toArray_any A _ (HR.out.old hb) HS.out)).mono ?_
              rintro e w2 ⟨A', rfl, O, D0, B⟩
              rw [← hK]
              exact ⟨_, rfl, ⟨A', _, rfl, O.mono hb.size, D0⟩, B⟩
            | 4, ho, _ =>
              simp only [List.getElem?_cons_succ, List.getElem?_cons_zero, Option.some.injEq] at ho
              subst ho
              refine ⟨wanted_none rfl, ?_⟩
              have c0 := (HXD.out.old hb).c0
              have c1 := (HXD.out.old hb).c1
              have c2 := (HXD.out.old hb).c2
              generalize hK : (fun (a' : Act) (w'' : World) => ∃ v : Value, _ ∧ _ ∧ _) = K
              go_simp
              rw [← hK]
              exact ⟨_, rfl, rfl, Below.refl _ _⟩
            | 5, ho, _ =>
              simp only [List.getElem?_cons_succ, List.getElem?_cons_zero, Option.some.injEq] at ho
              subst ho
              refine ⟨wanted_none rfl, ?_⟩
              have e0 : Hid (vs 4 = .agg #[.int .i64 D.b, .int .i64 D.r, .int .i64 D.c]) := hd 4 (by kernel_rfl)
              generalize hK : (fun (a' : Act) (w'' : World) => ∃ v : Value, _ ∧ _ ∧ _) = K
              go_simp
              refine (calls_args (by rw [e0.out]) (toAddr_any D _)).mono ?_
              rintro e w2 ⟨rfl, B⟩
              rw [← hK]
              exact ⟨_, rfl, rfl, B⟩
            | 6, ho, _ =>
              simp only [List.getElem?_cons_succ, List.getElem?_cons_zero, Option.some.injEq] at ho
              subst ho
              refine ⟨wanted_none rfl, ?_⟩
              have e1 : Hid (vs 1 = .agg #[.int .i64 G.a, .int .i64 G.b, .int .i64 G.r, .int .i64 G.c]) := hd 1 (by kernel_rfl)
              obtain ⟨A', U, ea', O, D0⟩ := hd 3 (by kernel_rfl)
              have ea := hid ea'
              clear ea'
              have e5 : Hid (vs 5 = .agg #[.int .i64 D.b, .int .i64 D.r, .int .i64 D.c]) := hd 5 (by kernel_rfl)
              generalize hK : (fun (a' : Act) (w'' : World) => ∃ v : Value, _ ∧ _ ∧ _) = K
              go_simp
              refine (calls_args (by rw [e1.out, ea.out, e5.out]) (implLoadCell_any G A' D _ (O.reads) (by rw [D0]; exact HS.out))).mono ?_
              rintro e w2 ⟨xa, xn, xc, rfl, OO, B⟩
              rw [← hK]
              exact ⟨_, rfl, ⟨xa, xn, xc, by rw [D0], by rw [D0] at OO; exact OO.mono hb.size⟩, B⟩
            | 7, ho, _ =>
              simp only [List.getElem?_cons_succ, List.getElem?_cons_zero, Option.some.injEq] at ho
              subst ho
              refine ⟨wanted_none rfl, ?_⟩
              obtain ⟨xa, xn, xc, ev, OO⟩ := hd 6 (by kernel_rfl)
              generalize hK : (fun (a' : Act) (w'' : World) => ∃ v : Value, _ ∧ _ ∧ _) = K
              go_simp
              rw [← hK]
              exact ⟨_, by simp [upd, ev], ⟨xa, xn, xc, rfl, OO⟩, Below.refl _ _⟩
            | 8, ho, _ =>
              simp only [List.getElem?_cons_succ, List.getElem?_cons_zero, Option.some.injEq] at ho
              subst ho
              refine ⟨wanted_none rfl, ?_⟩
              obtain ⟨xa, xn, xc, ev, OO⟩ := hd 7 (by kernel_rfl)
              generalize hK : (fun (a' : Act) (w'' : World) => ∃ v : Value, _ ∧ _ ∧ _) = K
              go_simp
              rw [← hK]
              exact ⟨_, by simp [upd, ev], ⟨xa, xn, xc, rfl, OO⟩, Below.refl _ _⟩
            | 9, ho, _ =>
              simp only [List.getElem?_cons_succ, List.getElem?_cons_zero, Option.some.injEq] at ho
              subst ho
              refine ⟨wanted_none rfl, ?_⟩
              obtain ⟨xa, xn, xc, ev, OO⟩ := hd 7 (by kernel_rfl)
              generalize hK : (fun (a' : Act) (w'' : World) => ∃ v : Value, _ ∧ _ ∧ _) = K
              go_simp
              rw [← hK]
              exact ⟨_, by simp [upd, ev], rfl, Below.refl _ _⟩
            | 10, ho, _ =>
              simp only [List.getElem?_cons_succ, List.getElem?_cons_zero, Option.some.injEq] at ho
              subst ho
              refine ⟨wanted_none rfl, ?_⟩
              generalize hK : (fun (a' : Act) (w'' : World) => ∃ v : Value, _ ∧ _ ∧ _) = K
              go_simp
              rw [← hK]
              exact ⟨_, rfl, ⟨_, rfl, hb.size, BoxK.new _ none 0 0 false⟩, below_alloc _ _⟩
            | n + 11, _, hin => exact absurd hin (by omega)
          case hstore4 =>
            intro vs w' o ho hb hf
            simp only [List.getElem?_cons_succ, List.getElem?_cons_zero, Option.some.injEq] at ho
            subst ho
            refine ⟨wanted_none rfl, ?_⟩
            obtain ⟨ta, tn, tc, et, OT⟩ := hf 7 (by decide) (by decide)
            obtain ⟨ya, yn, yc, er, O⟩ := hf 8 (by decide) (by decide)
            obtain ⟨g, ep, hg, N⟩ := hf 10 (by decide) (by decide)
            have HT2 := hid et
            have HHB := hid hb
            have HO := hid O
            have HN := hid N
            have HHG := hid hg
            clear et OT hb O N hg hf
            have c0 := HN.out.c0
            have c1 := HN.out.c1
            have fr := HN.out.fr
            generalize hK : (fun (a' : Act) (w'' : World) => _ ∧ _ ∧ _) = K
            go_simp
            clear c0 c1 fr
            rw [← hK]
            have K1 := stored2_keeps w' g (.slice ya yn yc) (.bool (loadR G D A.d).1.2)
            exact ⟨by simp [er, ep], ⟨ta, tn, tc, HT2.out⟩, ya, yn, yc, g, ep, HHG.out, HO.out.keeps K1 (fun b hb hS => ints_not HO.out HN.out.hh (by decide) b hb hS), HN.out.stored _ _ _ _, HHB.out.trans (K1.below HHB.out.size (fun q hq hS => by have := HHG.out; omega))⟩
          case hlate4 =>
            intro vs w' o ho hg
            simp only [List.getElem?_cons_succ, List.getElem?_cons_zero, Option.some.injEq] at ho
            subst ho
            refine ⟨wanted_none rfl, ?_⟩
            obtain ⟨⟨ta, tn, tc, et⟩, hg2⟩ := hg
            have HG2 := hid hg2
            clear hg2
            generalize hK : (fun (a' : Act) (w'' : World) => _ ∧ _ ∧ _) = K
            go_simp
            rw [← hK]
            exact ⟨by simp [upd, et], ⟨ta, tn, tc, by simpa [upd] using et⟩, by simpa [upd] using HG2.out⟩
          case hend4 =>
            intro vs w12 o ho hg hx
            simp only [List.getElem?_cons_succ, List.getElem?_cons_zero, Option.some.injEq] at ho
            subst ho
            refine ⟨wanted_none rfl, ?_⟩
            obtain ⟨_, Va, Vn, Vc, gV, ep, hg1, O, N, hbb⟩ := hg
            generalize vs 9 = ub at hx ⊢
            subst hx
            generalize vs 10 = up at ep ⊢
            subst ep
            have HOV := hid O
            have HXV := hid N
            have HGV := hid hg1
            have HHB := hid hbb
            have HNV : Hid (Vn = (loadR G D A.d).1.1.length) := hid O.length
            clear O N hg1 hbb
            go_simp
            have HOY := hid (HOY.out.old HHB.out)
            have HXY := hid (HXY.out.old HHB.out)
            have HOZ := hid (HOZ.out.old HHB.out)
            have HXZ := hid (HXZ.out.old HHB.out)
            have HB1 := hid (below_step HB1.out HHB.out (Nat.le_refl _))
            clear HHB
            have cV0 := HXV.out.c0
            have cV1 := HXV.out.c1
            have cY0 := HXY.out.c0
            have cY1 := HXY.out.c1
            go_wp2_with fail
            clear cV0 cV1 cY0 cY1
            refine (eqCell_same Va Ya Vn Yn Vc Yc (loadR G D A.d).1.1 (loadR G D A.d).1.2 _ HOV.out.reads HOY.out.reads HNV.out HNY.out HL.out).mono ?_
            rintro e w13 ⟨rfl, B⟩
            have HOY := hid (HOY.out.old B)
            have HXY := hid (HXY.out.old B)
            have HOZ := hid (HOZ.out.old B)
            have HXZ := hid (HXZ.out.old B)
            have HB1 := hid (below_step HB1.out B (Nat.le_refl _))
            clear B
            have cZ0 := HXZ.out.c0
            have cZ1 := HXZ.out.c1
            go_wp2_with fail
            clear cZ0 cZ1
            refine (heldCell_any Za Zn Zc 1 _ _ HOZ.out.reads hZl (by decide) (by decide)).mono ?_
            rintro e w14 ⟨rfl, B⟩
            have HB1 := hid (below_step HB1.out B (Nat.le_refl _))
            clear B
            go_wp2_with fail
            go_ret
            exact ⟨rfl, below_step HBw.out HB1.out (Nat.le_refl _)⟩
  · have HA := hid hA
    have HT := hid (szT_no (t := A.d.tot) (left := 1048576) (by omega))
    clear hA
    go_enter Try.func9, Try.ntmps9
    go_wp2_with fail
    refine (szArray_any A _ _ (((HA.out.reads.old (below_alloc _ _)).old (below_alloc _ _)).old (below_alloc _ _)) HA.out.ns HA.out.n0 HA.out.n1 HA.out.n2 (by omega) (by omega)).mono ?_
    rintro e w1 ⟨rfl, B1⟩
    rw [HT.out]
    go_wp2_with fail
    go_ret
    exact ⟨rfl, below_step (below_alloc3 _ _ _ _) B1 (Nat.le_refl _)⟩

set_option maxRecDepth 100000 in
theorem lifted (os : Os) (started : os.Started) (H : Type) (enc : TypeId × Value → H) :
    ReturnsInHanded {} Try.checked os 9 .any (Rows.fnExactLoadCellSpec.pre6 enc Try.prog Try.f9 Rows.fnExactLoadCellRow.domain false) (Rows.fnExactLoadCellSpec.post enc Try.prog Try.f9 false true false false) := by
  refine returnsInHanded_of_change (C := Try.checked) own started (by kernel_rfl) Try.func9
    (ChangeSpec.witness6 (enc := enc) (C := Try.checked) false ⟨#[], #[.agg #[.int .i64 0, .int .i64 0, .int .i64 0, .int .i64 0], .agg #[.slice none 0 0, .slice none 0 0, .slice none 0 0], .agg #[.int .i64 0, .int .i64 0, .int .i64 0]], []⟩ 8 (by kernel_rfl) (by kernel_rfl) (by kernel_rfl) (by kernel_rfl)) ?_
  intro W base args ds gs before hval0 hW hcnd _
  have hval : ∀ (j : Nat) t v, Try.f9.params[j]? = some t → args[j]? = some v → Value.okWide Try.prog W .any base t v := hval0
  have hW' := hW
  obtain ⟨p, q, hA0, hV, rfl, hfz, hnd⟩ := hW
  have hA : DataW.TrodAll enc Try.prog W 0 (fun _ => true) true Try.f9.params.toList args.toList ds p := hA0
  rw [Try.params9] at hA hval
  obtain ⟨v0, vs0, d0, ds0, p0, q0, hargs, rfl, rfl, h0, r0⟩ := trodAll_cons hA
  obtain ⟨v1, vs1, d1, ds1, p1, q1, rfl, rfl, rfl, h1, r1⟩ := trodAll_cons r0
  obtain ⟨v2, vs2, d2, ds2, p2, q2, rfl, rfl, rfl, h2, r2⟩ := trodAll_cons r1
  obtain ⟨rfl, rfl, rfl⟩ := trodAll_nil r2
  obtain rfl : args = #[v0, v1, v2] := by cases args; simp_all
  obtain ⟨rfl, rfl⟩ := trodVars_none hV
  have k0 := h0
  have lt0 : ∀ x ∈ p0, x.block < W.heap.size := by obtain ⟨m, hm⟩ := k0; exact DataW.trod_lt m _ _ _ hm
  obtain ⟨G, rfl⟩ := open_geo (hval 0 31 v0 rfl rfl) h0
  have k1 := h1
  have lt1 : ∀ x ∈ p1, x.block < W.heap.size := by obtain ⟨m, hm⟩ := k1; exact DataW.trod_lt m _ _ _ hm
  obtain ⟨A, rfl, hArr⟩ := open_array (hval 1 34 v1 rfl rfl) h1
  have k2 := h2
  have lt2 : ∀ x ∈ p2, x.block < W.heap.size := by obtain ⟨m, hm⟩ := k2; exact DataW.trod_lt m _ _ _ hm
  obtain ⟨D, rfl⟩ := open_adr (hval 2 59 v2 rfl rfl) h2
  clear hA0 hval0
  refine (walk W G A hArr D).mono fun e W' ⟨he, bel⟩ => ?_
  subst he
  exact ⟨_, rfl, _, _, _, [], _, [], hW', trodAll_mk1 (shut_bool Try.underlying4 _), (trodAll_cons_mk (Below.trod laidOut (by kernel_rfl) (of_decide_eq_true (by kernel_rfl)) k0 bel lt0) (trodAll_cons_mk (Below.trod laidOut (by kernel_rfl) (of_decide_eq_true (by kernel_rfl)) k1 bel lt1) (trodAll_cons_mk (Below.trod laidOut (by kernel_rfl) (of_decide_eq_true (by kernel_rfl)) k2 bel lt2) trodAll_mk0))), rfl, bel.frame _, fun h => by cases h⟩

theorem own_facts : joinedFacts Try.prog 9 Try.f9 Rows.fnExactLoadCellSpec Rows.fnExactLoadCellRow = true :=
  facts_of 9 Try.f9 Rows.fnExactLoadCellSpec Rows.fnExactLoadCellRow (by as_aux_lemma => kernel_rfl) (by as_aux_lemma => kernel_rfl) (by as_aux_lemma => kernel_rfl) rfl rfl
    (by as_aux_lemma => kernel_rfl) (by as_aux_lemma => kernel_rfl) (by as_aux_lemma => kernel_rfl) (by as_aux_lemma => kernel_rfl)
    (by as_aux_lemma => kernel_rfl) (by as_aux_lemma => kernel_rfl) (by as_aux_lemma => kernel_rfl) (by as_aux_lemma => kernel_rfl) (by as_aux_lemma => kernel_rfl)
    (by as_aux_lemma => kernel_rfl) (by as_aux_lemma => kernel_rfl) (by as_aux_lemma => kernel_rfl) (by as_aux_lemma => kernel_rfl)
    rfl rfl rfl rfl (by as_aux_lemma => kernel_rfl) (by as_aux_lemma => kernel_rfl) (by as_aux_lemma => kernel_rfl) (by as_aux_lemma => kernel_rfl)
theorem over : Rows.fnExactLoadCellRow.holds Try.pinned (OpenSpec.ofChange Rows.fnExactLoadCellSpec) :=
  OpenClaim.holds_of_wide 9 Try.f9 rfl rfl rfl rfl rfl rfl rfl ⟨rfl, rfl, rfl, rfl, rfl⟩ rfl rfl rfl rfl rfl (by as_aux_lemma => kernel_rfl) Try.func9 own_facts
    (of_decide_eq_true (by as_aux_lemma => kernel_rfl)) (by unfold Func.isWrapper; first | (rw [if_pos (by decide +kernel)]; kernel_rfl) | (rw [if_neg (by decide +kernel)]; exact ⟨rfl, rfl⟩))
    (fun os started H enc _ => lifted os started H enc)

theorem proved : Rows.FnExactLoadCellSaid := over
#print axioms proved
end Go.Proofs.Ytnfkkkjookfdiaa.fnExactLoadCell
