/- LoadCell: what the program's and the reference's return. -/
import Derived.Test.YtnfkkkjookfdiaaFlpW
import Derived.Test.YtnfkkkjookfdiaaMkC
import Derived.Test.YtnfkkkjookfdiaaIn2
namespace Go.Proofs.Ytnfkkkjookfdiaa
open Go.RowKit

def loadR (G : Geo) (D : Adr) (A : ArrD) : (List Int × Bool) × Bool := if arrOk G A && adrOk G D then (A.cells[(adrIdx G D).toNat]?.getD ([], false), true) else (([], false), false)
theorem loadR_len {G : Geo} {D : Adr} {A : ArrD} (h : A.small) : (loadR G D A).1.1.length ≤ 1048576 := by
  unfold loadR
  split
  · generalize (adrIdx G D).toNat = i
    cases hx : A.cells[i]? with
    | none => simp
    | some q => exact h.each i q hx
  · simp
theorem loadR_yes {G : Geo} {D : Adr} {i : Nat} {e : CellE} {X : ArrE} (k1 : arrOk G X.d = true) (k2 : adrOk G D = true) (hi : adrIdx G D = (i : Int)) (he : X.es[i]? = some e) : loadR G D X.d = ((e.xs, e.p), true) := by
  unfold loadR
  rw [k1, k2, hi, Int.toNat_natCast, cells_at he]
  rfl
set_option maxRecDepth 100000 in
theorem implLoadCell_any (G : Geo) (A : ArrE) (D : Adr) (w : World) (hA : ArrR w A) (hs : A.d.small) :
    Calls Try.prog 39 #[.agg #[.int .i64 G.a, .int .i64 G.b, .int .i64 G.r, .int .i64 G.c], .agg #[.slice A.s0.a A.s0.n A.s0.c, .slice A.s1.a A.s1.n A.s1.c, .slice A.s2.a A.s2.n A.s2.c], .agg #[.int .i64 D.b, .int .i64 D.r, .int .i64 D.c]] w fun e w' => ∃ (a' : Option Addr) (n' c' : Nat), e = .returned (.tuple #[.agg #[.slice a' n' c', .bool (loadR G D A.d).1.2], .bool (loadR G D A.d).2]) ∧ OwnS w' w.heap.size a' n' c' (loadR G D A.d).1.1 ∧ Below w.heap.size w w' := by
  have HA := hid hA
  have HS := hid hs
  clear hA hs
  obtain ⟨w1, hw1⟩ : ∃ w1, w1 = (((w.alloc (.cells #[.int .i64 G.a, .int .i64 G.b, .int .i64 G.r, .int .i64 G.c] 37)).alloc (.cells #[.slice A.s0.a A.s0.n A.s0.c, .slice A.s1.a A.s1.n A.s1.c, .slice A.s2.a A.s2.n A.s2.c] 41)).alloc (.cells #[.int .i64 D.b, .int .i64 D.r, .int .i64 D.c] 64)).alloc (.cells #[.slice none 0 0, .bool false] 61) := ⟨_, rfl⟩
  have HB : Hid (Below w.heap.size w w1) := by rw [hw1]; exact hid (below_alloc4 _ _ _ _ _)
  have HXG : Hid (BoxG w1 w.heap.size G) := by rw [hw1]; exact hid ((((BoxG.new_ w 37 G rfl).old (below_alloc _ _)).old (below_alloc _ _)).old (below_alloc _ _))
  have HXA : Hid (BoxR w1 (w.heap.size + 1) A) := by rw [hw1]; exact hid (((BoxR.new_ (w.alloc _) 41 A (by simp)).old (below_alloc _ _)).old (below_alloc _ _))
  have HXD : Hid (BoxA w1 (w.heap.size + 1 + 1) D) := by rw [hw1]; exact hid ((BoxA.new_ ((w.alloc _).alloc _) 64 D (by simp)).old (below_alloc _ _))
  have HXR : Hid (BoxK w1 (w.heap.size + 1 + 1 + 1) none 0 0 false) := by rw [hw1]; exact hid (by simpa using BoxK.new (((w.alloc (.cells #[.int .i64 G.a, .int .i64 G.b, .int .i64 G.r, .int .i64 G.c] 37)).alloc (.cells #[.slice A.s0.a A.s0.n A.s0.c, .slice A.s1.a A.s1.n A.s1.c, .slice A.s2.a A.s2.n A.s2.c] 41)).alloc (.cells #[.int .i64 D.b, .int .i64 D.r, .int .i64 D.c] 64)) none 0 0 false)
  have HAr := hid (HA.out.old HB.out)
  go_enter Try.func39, Try.ntmps39
  have o0 := HXG.out
  have o1 := HXA.out
  rw [hw1] at o0 o1
  obtain ⟨l0, oG0, oG1, oG2, oG3⟩ := o0
  have oA0 := o1.c0
  have oA1 := o1.c1
  have oA2 := o1.c2
  clear o1
  go_wp2_with fail
  clear l0 oG0 oG1 oG2 oG3 oA0 oA1 oA2
  rw [← hw1]
  clear hw1
  refine (implArrayOk_any G A _ HAr.out HS.out).mono ?_
  rintro e w2 ⟨rfl, B⟩
  have HXG := hid (HXG.out.old B)
  have HXA := hid (HXA.out.old B)
  have HXD := hid (HXD.out.old B)
  have HXR := hid (HXR.out.old B)
  have HAr := hid (HAr.out.old B)
  have HB := hid (below_step HB.out B (Nat.le_refl _))
  clear B
  cases k1 : arrOk G A.d with
  | false =>
    have hT := hid (show loadR G D A.d = (([], false), false) by unfold loadR; rw [k1]; rfl)
    have r0 := HXR.out.c0
    have r1 := HXR.out.c1
    have fr := HXR.out.fr
    have hst := HXR.out.stored none 0 0 false
    have K := stored2_keeps w2 (w.heap.size + 1 + 1 + 1) (.slice none 0 0) (.bool false)
    have HST := hid hst
    have HK := hid K
    clear hst K
    go_wp2_with fail
    refine bodyPost_ret (v := .tuple #[.agg #[.slice none 0 0, .bool false], .bool false]) (by simp [results, Try.results39, go_sem, r0, r1]) rfl ⟨none, 0, 0, by rw [hT.out], by rw [hT.out]; exact OwnS.empty _ _ _ _, HB.out.trans (HK.out.below (by have := HB.out.size; omega) (fun q hq hS => by omega))⟩
  | true =>
    have oG := HXG.out
    obtain ⟨l0, oG0, oG1, oG2, oG3⟩ := oG
    have oD0 := HXD.out.c0
    have oD1 := HXD.out.c1
    have oD2 := HXD.out.c2
    go_wp2_with fail
    clear l0 oG0 oG1 oG2 oG3 oD0 oD1 oD2
    refine (implAddrOk_any G D _).mono ?_
    rintro e w3 ⟨rfl, B⟩
    have HXG := hid (HXG.out.old B)
    have HXA := hid (HXA.out.old B)
    have HXD := hid (HXD.out.old B)
    have HXR := hid (HXR.out.old B)
    have HAr := hid (HAr.out.old B)
    have HB := hid (below_step HB.out B (Nat.le_refl _))
    clear B
    have HW3 : Hid (w.heap.size + 1 + 1 + 1 < w3.heap.size) := hid HXR.out.lt
    cases k2 : adrOk G D with
    | false =>
      have hT := hid (show loadR G D A.d = (([], false), false) by unfold loadR; rw [k1, k2]; rfl)
      have r0 := HXR.out.c0
      have r1 := HXR.out.c1
      have fr := HXR.out.fr
      have hst := HXR.out.stored none 0 0 false
      have K := stored2_keeps w3 (w.heap.size + 1 + 1 + 1) (.slice none 0 0) (.bool false)
      have HST := hid hst
      have HK := hid K
      clear hst K
      go_wp2_with fail
      refine bodyPost_ret (v := .tuple #[.agg #[.slice none 0 0, .bool false], .bool false]) (by simp [results, Try.results39, go_sem, r0, r1]) rfl ⟨none, 0, 0, by rw [hT.out], by rw [hT.out]; exact OwnS.empty _ _ _ _, HB.out.trans (HK.out.below (by have := HB.out.size; omega) (fun q hq hS => by omega))⟩
    | true =>
      obtain ⟨ci, e, hi, he, hen, hxs⟩ := cell_idx (X := A) (D := D) k1 k2 rfl
      have hT := hid (loadR_yes (X := A) (D := D) k1 k2 hi he)
      have HI := hid hi
      obtain ⟨e', cb, co, he', ha, hlt, hc0, hc1, hr, hl, hcap⟩ := HAr.out.cells.at_ (show ci < A.s0.n by have h1 := HAr.out.cells.len; have h2 := (List.getElem?_eq_some_iff.1 he).1; omega)
      have hee : e' = e := by rw [he] at he'; simpa using he'.symm
      subst hee
      have hi0 : (0 : Int) ≤ (ci : Int) := by omega
      have hin' : (ci : Int) < (A.s0.n : Int) := by have h1 := HAr.out.cells.len; have h2 := (List.getElem?_eq_some_iff.1 he).1; omega
      have v0 := HXA.out.c0
      rw [ha] at v0
      have V0 := hid v0
      have LV := hid HXA.out.lt
      have L0 := hid hlt
      have C0 := hid hc0
      have C1 := hid hc1
      have HE := hid hr
      have HEN := hid hl
      have hEl : e'.xs.length ≤ 1048576 := by omega
      clear hlt hc0 hc1 hr hl hcap v0 k1 k2 hi he he' hen hxs ha
      go_wp2_with fail
      refine grow2_of 8 (fr := ?fr1)
        (fun i v w' => match i with
            | 0 => v = .pointer (some ⟨w.heap.size + 1, 0, none⟩)
            | 1 => v = .slice (some ⟨cb, co, none⟩) A.s0.n A.s0.c
            | 2 => v = .agg #[.int .i64 G.a, .int .i64 G.b, .int .i64 G.r, .int .i64 G.c]
            | 3 => v = .agg #[.int .i64 D.b, .int .i64 D.r, .int .i64 D.c]
            | 4 => v = .int .i64 (ci : Int)
            | 5 => v = .pointer (some ⟨cb, co + ci * 2, none⟩)
            | 6 => v = .agg #[.slice e'.a e'.n e'.c, .bool e'.p]
            | _ => ∃ (a' : Option Addr) (c' : Nat), v = .agg #[.slice a' e'.n c', .bool e'.p] ∧ OwnS w' w3.heap.size a' e'.n c' e'.xs) (by kernel_rfl) (by kernel_rfl) rfl ?hlast1 ?hlbst1 ?hfr1 ⟨fun _ => undef, ?h01⟩ ?hF1 ?hstep1 ?hend1
      case hfr1 => intro vs; simp only [frOf, List.take_succ_cons, List.take_zero]; go_simp; exact rfl
      case h01 => rfl
      case hlast1 =>
        intro o ho i hi
        simp only [List.getElem?_cons_succ, List.getElem?_cons_zero, Option.some.injEq] at ho
        subst ho
        match i, hi with
        | 0, _ => show (_ : Bool) = true; kernel_rfl
        | 1, _ => show (_ : Bool) = true; kernel_rfl
        | 2, _ => show (_ : Bool) = true; kernel_rfl
        | 3, _ => show (_ : Bool) = true; kernel_rfl
        | 4, _ => show (_ : Bool) = true; kernel_rfl
        | 5, _ => show (_ : Bool) = true; kernel_rfl
        | 6, _ => show (_ : Bool) = true; kernel_rfl
        | 7, _ => show (_ : Bool) = true; kernel_rfl
      case hlbst1 =>
        intro o ho i hi
        simp only [List.getElem?_cons_succ, List.getElem?_cons_zero, Option.some.injEq] at ho
        subst ho
        match i, hi with
        | 0, _ => show (_ : Bool) = true; kernel_rfl
        | 1, _ => show (_ : Bool) = true; kernel_rfl
        | 2, _ => show (_ : Bool) = true; kernel_rfl
        | 3, _ => show (_ : Bool) = true; kernel_rfl
        | 4, _ => show (_ : Bool) = true; kernel_rfl
        | 5, _ => show (_ : Bool) = true; kernel_rfl
        | 6, _ => show (_ : Bool) = true; kernel_rfl
        | 7, _ => show (_ : Bool) = true; kernel_rfl
        | 8, _ => show (_ : Bool) = true; kernel_rfl
      case hF1 =>
        intro i v w' w'' h hb
        match i, h with
        | 0, h => exact h
        | 1, h => exact h
        | 2, h => exact h
        | 3, h => exact h
        | 4, h => exact h
        | 5, h => exact h
        | 6, h => exact h
        | n + 7, h => obtain ⟨a', c', e, o⟩ := h; exact ⟨a', c', e, o.old hb⟩
      case hstep1 =>
        intro vs w' i o hin ho hb hd
        match i, ho, hin with
        | 0, ho, _ =>
          simp only [List.getElem?_cons_zero, Option.some.injEq] at ho
          subst ho
          refine ⟨wanted_none rfl, ?_⟩
          generalize hK : (fun (a' : Act) (w'' : World) => ∃ v : Value, _ ∧ _ ∧ _) = K
          go_simp
          rw [← hK]
          exact ⟨_, rfl, rfl, Below.refl _ _⟩
        | 1, ho, _ =>
          simp only [List.getElem?_cons_succ, List.getElem?_cons_zero, Option.some.injEq] at ho
          subst ho
          refine ⟨wanted_none rfl, ?_⟩
          have e0 : vs 0 = .pointer (some ⟨w.heap.size + 1, 0, none⟩) := hd 0 (by kernel_rfl)
          have q := (hb.cell (p := ⟨w.heap.size + 1, 0, none⟩) LV.out).trans V0.out
          generalize hK : (fun (a' : Act) (w'' : World) => ∃ v : Value, _ ∧ _ ∧ _) = K
          go_simp
          rw [← hK]
          exact ⟨_, by simp [upd, e0], rfl, Below.refl _ _⟩
        | 2, ho, _ =>
          simp only [List.getElem?_cons_succ, List.getElem?_cons_zero, Option.some.injEq] at ho
          subst ho
          refine ⟨wanted_none rfl, ?_⟩
          have c0 := (HXG.out.old hb).c0
          have c1 := (HXG.out.old hb).c1
          have c2 := (HXG.out.old hb).c2
          have c3 := (HXG.out.old hb).c3
          generalize hK : (fun (a' : Act) (w'' : World) => ∃ v : Value, _ ∧ _ ∧ _) = K
          go_simp
          rw [← hK]
          exact ⟨_, rfl, rfl, Below.refl _ _⟩
        | 3, ho, _ =>
          simp only [List.getElem?_cons_succ, List.getElem?_cons_zero, Option.some.injEq] at ho
          subst ho
          refine ⟨wanted_none rfl, ?_⟩
          have c0 := (HXD.out.old hb).c0
          have c1 := (HXD.out.old hb).c1
          have c2 := (HXD.out.old hb).c2
          generalize hK : (fun (a' : Act) (w'' : World) => ∃ v : Value, _ ∧ _ ∧ _) = K
          go_simp
          rw [← hK]
          exact ⟨_, rfl, rfl, Below.refl _ _⟩
        | 4, ho, _ =>
          simp only [List.getElem?_cons_succ, List.getElem?_cons_zero, Option.some.injEq] at ho
          subst ho
          refine ⟨wanted_none rfl, ?_⟩
          have e2 : Hid (vs 2 = .agg #[.int .i64 G.a, .int .i64 G.b, .int .i64 G.r, .int .i64 G.c]) := hd 2 (by kernel_rfl)
          have e3 : Hid (vs 3 = .agg #[.int .i64 D.b, .int .i64 D.r, .int .i64 D.c]) := hd 3 (by kernel_rfl)
          generalize hK : (fun (a' : Act) (w'' : World) => ∃ v : Value, _ ∧ _ ∧ _) = K
          go_simp
          refine (calls_args (by rw [e2.out, e3.out]) (implAddrIndex_any G D _)).mono ?_
          rintro e w2 ⟨rfl, B⟩
          rw [← hK]
          exact ⟨_, rfl, congrArg (Value.int .i64) HI.out, B⟩
        | 5, ho, _ =>
          simp only [List.getElem?_cons_succ, List.getElem?_cons_zero, Option.some.injEq] at ho
          subst ho
          refine ⟨wanted_none rfl, ?_⟩
          have e1 : vs 1 = .slice (some ⟨cb, co, none⟩) A.s0.n A.s0.c := hd 1 (by kernel_rfl)
          have e4 : vs 4 = .int .i64 (ci : Int) := hd 4 (by kernel_rfl)
          generalize hK : (fun (a' : Act) (w'' : World) => ∃ v : Value, _ ∧ _ ∧ _) = K
          go_simp
          rw [← hK]
          exact ⟨_, by simp [upd, e1, e4], rfl, Below.refl _ _⟩
        | 6, ho, _ =>
          simp only [List.getElem?_cons_succ, List.getElem?_cons_zero, Option.some.injEq] at ho
          subst ho
          refine ⟨wanted_none rfl, ?_⟩
          have e5 : vs 5 = .pointer (some ⟨cb, co + ci * 2, none⟩) := hd 5 (by kernel_rfl)
          have q := (hb.cell (p := ⟨cb, co + ci * 2, none⟩) L0.out).trans C0.out
          have q1 := (hb.cell (p := ⟨cb, co + ci * 2 + 1, none⟩) L0.out).trans C1.out
          generalize hK : (fun (a' : Act) (w'' : World) => ∃ v : Value, _ ∧ _ ∧ _) = K
          go_simp
          rw [← hK]
          exact ⟨_, by simp [upd, e5], rfl, Below.refl _ _⟩
        | 7, ho, _ =>
          simp only [List.getElem?_cons_succ, List.getElem?_cons_zero, Option.some.injEq] at ho
          subst ho
          refine ⟨wanted_none rfl, ?_⟩
          have e6 : Hid (vs 6 = .agg #[.slice e'.a e'.n e'.c, .bool e'.p]) := hd 6 (by kernel_rfl)
          generalize hK : (fun (a' : Act) (w'' : World) => ∃ v : Value, _ ∧ _ ∧ _) = K
          go_simp
          refine (calls_args (by rw [e6.out]) (implCopyCell_any _ _ _ e'.xs e'.p _ (HE.out.old hb) HEN.out hEl)).mono ?_
          rintro e w2 ⟨a', c', rfl, O, B⟩
          rw [← hK]
          exact ⟨_, rfl, ⟨a', c', rfl, O.mono hb.size⟩, B⟩
        | n + 8, _, hin => exact absurd hin (by omega)
      case hend1 =>
        intro vs w5 o o2 ho ho2 hb hf
        simp only [List.getElem?_cons_succ, List.getElem?_cons_zero, Option.some.injEq] at ho ho2
        subst ho
        subst ho2
        refine ⟨wanted_none rfl, ?_⟩
        obtain ⟨ya, yc, er, HY0⟩ := hf 7 (by decide)
        generalize vs 7 = ur at er ⊢
        subst er
        have HHB := hid hb
        have HY := hid HY0
        clear hf hb HY0
        have HXG := hid (HXG.out.old HHB.out)
        have HXA := hid (HXA.out.old HHB.out)
        have HXD := hid (HXD.out.old HHB.out)
        have HXR := hid (HXR.out.old HHB.out)
        have HAr := hid (HAr.out.old HHB.out)
        have HB := hid (below_step HB.out HHB.out (Nat.le_refl _))
        have hfr := HXR.out.fr
        have hr0 := HXR.out.c0
        have hr1 := HXR.out.c1
        have hst := HXR.out.stored ya e'.n yc e'.p
        have K := stored2_keeps w5 (w.heap.size + 1 + 1 + 1) (.slice ya e'.n yc) (.bool e'.p)
        have HST := hid hst
        have HK := hid K
        clear hst K
        go_simp
        clear hr0 hr1 hfr
        generalize hw : (w5.setCell ⟨w.heap.size + 1 + 1 + 1, 0, none⟩ (.slice ya e'.n yc)).setCell ⟨w.heap.size + 1 + 1 + 1, 1, none⟩ (.bool e'.p) = w6 at HST HK ⊢
        have r0 := HST.out.c0
        have r1 := HST.out.c1
        go_wp2_with fail
        refine bodyPost_ret (v := .tuple #[.agg #[.slice ya e'.n yc, .bool e'.p], .bool true]) (by simp [results, Try.results39, go_sem, r0, r1]) rfl ⟨ya, e'.n, yc, by rw [hT.out], by rw [hT.out]; exact (HY.out.keeps HK.out (fun b hb hS => by have := (HY.out.lt hb).1; have := HW3.out; omega)).mono (by have := HW3.out; omega), HB.out.trans (HK.out.below (by have := HB.out.size; omega) (fun q hq hS => by omega))⟩

set_option maxRecDepth 100000 in
theorem specLoadCell_any (G : Geo) (A : ArrE) (D : Adr) (w : World) (hA : ArrR w A) (hs : A.d.small) :
    Calls Try.prog 37 #[.agg #[.int .i64 G.a, .int .i64 G.b, .int .i64 G.r, .int .i64 G.c], .agg #[.slice A.s0.a A.s0.n A.s0.c, .slice A.s1.a A.s1.n A.s1.c, .slice A.s2.a A.s2.n A.s2.c], .agg #[.int .i64 D.b, .int .i64 D.r, .int .i64 D.c]] w fun e w' => ∃ (a' : Option Addr) (n' c' : Nat), e = .returned (.tuple #[.agg #[.slice a' n' c', .bool (loadR G D A.d).1.2], .bool (loadR G D A.d).2]) ∧ OwnS w' w.heap.size a' n' c' (loadR G D A.d).1.1 ∧ Below w.heap.size w w' := by
  have HA := hid hA
  have HS := hid hs
  clear hA hs
  obtain ⟨w1, hw1⟩ : ∃ w1, w1 = (((w.alloc (.cells #[.int .i64 G.a, .int .i64 G.b, .int .i64 G.r, .int .i64 G.c] 37)).alloc (.cells #[.slice A.s0.a A.s0.n A.s0.c, .slice A.s1.a A.s1.n A.s1.c, .slice A.s2.a A.s2.n A.s2.c] 41)).alloc (.cells #[.int .i64 D.b, .int .i64 D.r, .int .i64 D.c] 64)).alloc (.cells #[.slice none 0 0, .bool false] 61) := ⟨_, rfl⟩
  have HB : Hid (Below w.heap.size w w1) := by rw [hw1]; exact hid (below_alloc4 _ _ _ _ _)
  have HXG : Hid (BoxG w1 w.heap.size G) := by rw [hw1]; exact hid ((((BoxG.new_ w 37 G rfl).old (below_alloc _ _)).old (below_alloc _ _)).old (below_alloc _ _))
  have HXA : Hid (BoxR w1 (w.heap.size + 1) A) := by rw [hw1]; exact hid (((BoxR.new_ (w.alloc _) 41 A (by simp)).old (below_alloc _ _)).old (below_alloc _ _))
  have HXD : Hid (BoxA w1 (w.heap.size + 1 + 1) D) := by rw [hw1]; exact hid ((BoxA.new_ ((w.alloc _).alloc _) 64 D (by simp)).old (below_alloc _ _))
  have HXR : Hid (BoxK w1 (w.heap.size + 1 + 1 + 1) none 0 0 false) := by rw [hw1]; exact hid (by simpa using BoxK.new (((w.alloc (.cells #[.int .i64 G.a, .int .i64 G.b, .int .i64 G.r, .int .i64 G.c] 37)).alloc (.cells #[.slice A.s0.a A.s0.n A.s0.c, .slice A.s1.a A.s1.n A.s1.c, .slice A.s2.a A.s2.n A.s2.c] 41)).alloc (.cells #[.int .i64 D.b, .int .i64 D.r, .int .i64 D.c] 64)) none 0 0 false)
  have HAr := hid (HA.out.old HB.out)
  go_enter Try.func37, Try.ntmps37
  have o0 := HXG.out
  have o1 := HXA.out
  rw [hw1] at o0 o1
  obtain ⟨l0, oG0, oG1, oG2, oG3⟩ := o0
  have oA0 := o1.c0
  have oA1 := o1.c1
  have oA2 := o1.c2
  clear o1
  go_wp2_with fail
  clear l0 oG0 oG1 oG2 oG3 oA0 oA1 oA2
  rw [← hw1]
  clear hw1
  refine (specArrayOk_any G A _ HAr.out HS.out).mono ?_
  rintro e w2 ⟨rfl, B⟩
  have HXG := hid (HXG.out.old B)
  have HXA := hid (HXA.out.old B)
  have HXD := hid (HXD.out.old B)
  have HXR := hid (HXR.out.old B)
  have HAr := hid (HAr.out.old B)
  have HB := hid (below_step HB.out B (Nat.le_refl _))
  clear B
  cases k1 : arrOk G A.d with
  | false =>
    have hT := hid (show loadR G D A.d = (([], false), false) by unfold loadR; rw [k1]; rfl)
    have r0 := HXR.out.c0
    have r1 := HXR.out.c1
    have fr := HXR.out.fr
    have hst := HXR.out.stored none 0 0 false
    have K := stored2_keeps w2 (w.heap.size + 1 + 1 + 1) (.slice none 0 0) (.bool false)
    have HST := hid hst
    have HK := hid K
    clear hst K
    go_wp2_with fail
    refine bodyPost_ret (v := .tuple #[.agg #[.slice none 0 0, .bool false], .bool false]) (by simp [results, Try.results37, go_sem, r0, r1]) rfl ⟨none, 0, 0, by rw [hT.out], by rw [hT.out]; exact OwnS.empty _ _ _ _, HB.out.trans (HK.out.below (by have := HB.out.size; omega) (fun q hq hS => by omega))⟩
  | true =>
    have oG := HXG.out
    obtain ⟨l0, oG0, oG1, oG2, oG3⟩ := oG
    have oD0 := HXD.out.c0
    have oD1 := HXD.out.c1
    have oD2 := HXD.out.c2
    go_wp2_with fail
    clear l0 oG0 oG1 oG2 oG3 oD0 oD1 oD2
    refine (specAddrOk_any G D _).mono ?_
    rintro e w3 ⟨rfl, B⟩
    have HXG := hid (HXG.out.old B)
    have HXA := hid (HXA.out.old B)
    have HXD := hid (HXD.out.old B)
    have HXR := hid (HXR.out.old B)
    have HAr := hid (HAr.out.old B)
    have HB := hid (below_step HB.out B (Nat.le_refl _))
    clear B
    have HW3 : Hid (w.heap.size + 1 + 1 + 1 < w3.heap.size) := hid HXR.out.lt
    cases k2 : adrOk G D with
    | false =>
      have hT := hid (show loadR G D A.d = (([], false), false) by unfold loadR; rw [k1, k2]; rfl)
      have r0 := HXR.out.c0
      have r1 := HXR.out.c1
      have fr := HXR.out.fr
      have hst := HXR.out.stored none 0 0 false
      have K := stored2_keeps w3 (w.heap.size + 1 + 1 + 1) (.slice none 0 0) (.bool false)
      have HST := hid hst
      have HK := hid K
      clear hst K
      go_wp2_with fail
      refine bodyPost_ret (v := .tuple #[.agg #[.slice none 0 0, .bool false], .bool false]) (by simp [results, Try.results37, go_sem, r0, r1]) rfl ⟨none, 0, 0, by rw [hT.out], by rw [hT.out]; exact OwnS.empty _ _ _ _, HB.out.trans (HK.out.below (by have := HB.out.size; omega) (fun q hq hS => by omega))⟩
    | true =>
      obtain ⟨ci, e, hi, he, hen, hxs⟩ := cell_idx (X := A) (D := D) k1 k2 rfl
      have hT := hid (loadR_yes (X := A) (D := D) k1 k2 hi he)
      have HI := hid hi
      obtain ⟨e', cb, co, he', ha, hlt, hc0, hc1, hr, hl, hcap⟩ := HAr.out.cells.at_ (show ci < A.s0.n by have h1 := HAr.out.cells.len; have h2 := (List.getElem?_eq_some_iff.1 he).1; omega)
      have hee : e' = e := by rw [he] at he'; simpa using he'.symm
      subst hee
      have hi0 : (0 : Int) ≤ (ci : Int) := by omega
      have hin' : (ci : Int) < (A.s0.n : Int) := by have h1 := HAr.out.cells.len; have h2 := (List.getElem?_eq_some_iff.1 he).1; omega
      have v0 := HXA.out.c0
      rw [ha] at v0
      have V0 := hid v0
      have LV := hid HXA.out.lt
      have L0 := hid hlt
      have C0 := hid hc0
      have C1 := hid hc1
      have HE := hid hr
      have HEN := hid hl
      have hEl : e'.xs.length ≤ 1048576 := by omega
      clear hlt hc0 hc1 hr hl hcap v0 k1 k2 hi he he' hen hxs ha
      go_wp2_with fail
      refine grow2_of 8 (fr := ?fr1)
        (fun i v w' => match i with
            | 0 => v = .pointer (some ⟨w.heap.size + 1, 0, none⟩)
            | 1 => v = .slice (some ⟨cb, co, none⟩) A.s0.n A.s0.c
            | 2 => v = .agg #[.int .i64 G.a, .int .i64 G.b, .int .i64 G.r, .int .i64 G.c]
            | 3 => v = .agg #[.int .i64 D.b, .int .i64 D.r, .int .i64 D.c]
            | 4 => v = .int .i64 (ci : Int)
            | 5 => v = .pointer (some ⟨cb, co + ci * 2, none⟩)
            | 6 => v = .agg #[.slice e'.a e'.n e'.c, .bool e'.p]
            | _ => ∃ (a' : Option Addr) (c' : Nat), v = .agg #[.slice a' e'.n c', .bool e'.p] ∧ OwnS w' w3.heap.size a' e'.n c' e'.xs) (by kernel_rfl) (by kernel_rfl) rfl ?hlast1 ?hlbst1 ?hfr1 ⟨fun _ => undef, ?h01⟩ ?hF1 ?hstep1 ?hend1
      case hfr1 => intro vs; simp only [frOf, List.take_succ_cons, List.take_zero]; go_simp; exact rfl
      case h01 => rfl
      case hlast1 =>
        intro o ho i hi
        simp only [List.getElem?_cons_succ, List.getElem?_cons_zero, Option.some.injEq] at ho
        subst ho
        match i, hi with
        | 0, _ => show (_ : Bool) = true; kernel_rfl
        | 1, _ => show (_ : Bool) = true; kernel_rfl
        | 2, _ => show (_ : Bool) = true; kernel_rfl
        | 3, _ => show (_ : Bool) = true; kernel_rfl
        | 4, _ => show (_ : Bool) = true; kernel_rfl
        | 5, _ => show (_ : Bool) = true; kernel_rfl
        | 6, _ => show (_ : Bool) = true; kernel_rfl
        | 7, _ => show (_ : Bool) = true; kernel_rfl
      case hlbst1 =>
        intro o ho i hi
        simp only [List.getElem?_cons_succ, List.getElem?_cons_zero, Option.some.injEq] at ho
        subst ho
        match i, hi with
        | 0, _ => show (_ : Bool) = true; kernel_rfl
        | 1, _ => show (_ : Bool) = true; kernel_rfl
        | 2, _ => show (_ : Bool) = true; kernel_rfl
        | 3, _ => show (_ : Bool) = true; kernel_rfl
        | 4, _ => show (_ : Bool) = true; kernel_rfl
        | 5, _ => show (_ : Bool) = true; kernel_rfl
        | 6, _ => show (_ : Bool) = true; kernel_rfl
        | 7, _ => show (_ : Bool) = true; kernel_rfl
        | 8, _ => show (_ : Bool) = true; kernel_rfl
      case hF1 =>
        intro i v w' w'' h hb
        match i, h with
        | 0, h => exact h
        | 1, h => exact h
        | 2, h => exact h
        | 3, h => exact h
        | 4, h => exact h
        | 5, h => exact h
        | 6, h => exact h
        | n + 7, h => obtain ⟨a', c', e, o⟩ := h; exact ⟨a', c', e, o.old hb⟩
      case hstep1 =>
        intro vs w' i o hin ho hb hd
        match i, ho, hin with
        | 0, ho, _ =>
          simp only [List.getElem?_cons_zero, Option.some.injEq] at ho
          subst ho
          refine ⟨wanted_none rfl, ?_⟩
          generalize hK : (fun (a' : Act) (w'' : World) => ∃ v : Value, _ ∧ _ ∧ _) = K
          go_simp
          rw [← hK]
          exact ⟨_, rfl, rfl, Below.refl _ _⟩
        | 1, ho, _ =>
          simp only [List.getElem?_cons_succ, List.getElem?_cons_zero, Option.some.injEq] at ho
          subst ho
          refine ⟨wanted_none rfl, ?_⟩
          have e0 : vs 0 = .pointer (some ⟨w.heap.size + 1, 0, none⟩) := hd 0 (by kernel_rfl)
          have q := (hb.cell (p := ⟨w.heap.size + 1, 0, none⟩) LV.out).trans V0.out
          generalize hK : (fun (a' : Act) (w'' : World) => ∃ v : Value, _ ∧ _ ∧ _) = K
          go_simp
          rw [← hK]
          exact ⟨_, by simp [upd, e0], rfl, Below.refl _ _⟩
        | 2, ho, _ =>
          simp only [List.getElem?_cons_succ, List.getElem?_cons_zero, Option.some.injEq] at ho
          subst ho
          refine ⟨wanted_none rfl, ?_⟩
          have c0 := (HXG.out.old hb).c0
          have c1 := (HXG.out.old hb).c1
          have c2 := (HXG.out.old hb).c2
          have c3 := (HXG.out.old hb).c3
          generalize hK : (fun (a' : Act) (w'' : World) => ∃ v : Value, _ ∧ _ ∧ _) = K
          go_simp
          rw [← hK]
          exact ⟨_, rfl, rfl, Below.refl _ _⟩
        | 3, ho, _ =>
          simp only [List.getElem?_cons_succ, List.getElem?_cons_zero, Option.some.injEq] at ho
          subst ho
          refine ⟨wanted_none rfl, ?_⟩
          have c0 := (HXD.out.old hb).c0
          have c1 := (HXD.out.old hb).c1
          have c2 := (HXD.out.old hb).c2
          generalize hK : (fun (a' : Act) (w'' : World) => ∃ v : Value, _ ∧ _ ∧ _) = K
          go_simp
          rw [← hK]
          exact ⟨_, rfl, rfl, Below.refl _ _⟩
        | 4, ho, _ =>
          simp only [List.getElem?_cons_succ, List.getElem?_cons_zero, Option.some.injEq] at ho
          subst ho
          refine ⟨wanted_none rfl, ?_⟩
          have e2 : Hid (vs 2 = .agg #[.int .i64 G.a, .int .i64 G.b, .int .i64 G.r, .int .i64 G.c]) := hd 2 (by kernel_rfl)
          have e3 : Hid (vs 3 = .agg #[.int .i64 D.b, .int .i64 D.r, .int .i64 D.c]) := hd 3 (by kernel_rfl)
          generalize hK : (fun (a' : Act) (w'' : World) => ∃ v : Value, _ ∧ _ ∧ _) = K
          go_simp
          refine (calls_args (by rw [e2.out, e3.out]) (specAddrIndex_any G D _)).mono ?_
          rintro e w2 ⟨rfl, B⟩
          rw [← hK]
          exact ⟨_, rfl, congrArg (Value.int .i64) HI.out, B⟩
        | 5, ho, _ =>
          simp only [List.getElem?_cons_succ, List.getElem?_cons_zero, Option.some.injEq] at ho
          subst ho
          refine ⟨wanted_none rfl, ?_⟩
          have e1 : vs 1 = .slice (some ⟨cb, co, none⟩) A.s0.n A.s0.c := hd 1 (by kernel_rfl)
          have e4 : vs 4 = .int .i64 (ci : Int) := hd 4 (by kernel_rfl)
          generalize hK : (fun (a' : Act) (w'' : World) => ∃ v : Value, _ ∧ _ ∧ _) = K
          go_simp
          rw [← hK]
          exact ⟨_, by simp [upd, e1, e4], rfl, Below.refl _ _⟩
        | 6, ho, _ =>
          simp only [List.getElem?_cons_succ, List.getElem?_cons_zero, Option.some.injEq] at ho
          subst ho
          refine ⟨wanted_none rfl, ?_⟩
          have e5 : vs 5 = .pointer (some ⟨cb, co + ci * 2, none⟩) := hd 5 (by kernel_rfl)
          have q := (hb.cell (p := ⟨cb, co + ci * 2, none⟩) L0.out).trans C0.out
          have q1 := (hb.cell (p := ⟨cb, co + ci * 2 + 1, none⟩) L0.out).trans C1.out
          generalize hK : (fun (a' : Act) (w'' : World) => ∃ v : Value, _ ∧ _ ∧ _) = K
          go_simp
          rw [← hK]
          exact ⟨_, by simp [upd, e5], rfl, Below.refl _ _⟩
        | 7, ho, _ =>
          simp only [List.getElem?_cons_succ, List.getElem?_cons_zero, Option.some.injEq] at ho
          subst ho
          refine ⟨wanted_none rfl, ?_⟩
          have e6 : Hid (vs 6 = .agg #[.slice e'.a e'.n e'.c, .bool e'.p]) := hd 6 (by kernel_rfl)
          generalize hK : (fun (a' : Act) (w'' : World) => ∃ v : Value, _ ∧ _ ∧ _) = K
          go_simp
          refine (calls_args (by rw [e6.out]) (specCopyCell_any _ _ _ e'.xs e'.p _ (HE.out.old hb) HEN.out hEl)).mono ?_
          rintro e w2 ⟨a', c', rfl, O, B⟩
          rw [← hK]
          exact ⟨_, rfl, ⟨a', c', rfl, O.mono hb.size⟩, B⟩
        | n + 8, _, hin => exact absurd hin (by omega)
      case hend1 =>
        intro vs w5 o o2 ho ho2 hb hf
        simp only [List.getElem?_cons_succ, List.getElem?_cons_zero, Option.some.injEq] at ho ho2
        subst ho
        subst ho2
        refine ⟨wanted_none rfl, ?_⟩
        obtain ⟨ya, yc, er, HY0⟩ := hf 7 (by decide)
        generalize vs 7 = ur at er ⊢
        subst er
        have HHB := hid hb
        have HY := hid HY0
        clear hf hb HY0
        have HXG := hid (HXG.out.old HHB.out)
        have HXA := hid (HXA.out.old HHB.out)
        have HXD := hid (HXD.out.old HHB.out)
        have HXR := hid (HXR.out.old HHB.out)
        have HAr := hid (HAr.out.old HHB.out)
        have HB := hid (below_step HB.out HHB.out (Nat.le_refl _))
        have hfr := HXR.out.fr
        have hr0 := HXR.out.c0
        have hr1 := HXR.out.c1
        have hst := HXR.out.stored ya e'.n yc e'.p
        have K := stored2_keeps w5 (w.heap.size + 1 + 1 + 1) (.slice ya e'.n yc) (.bool e'.p)
        have HST := hid hst
        have HK := hid K
        clear hst K
        go_simp
        clear hr0 hr1 hfr
        generalize hw : (w5.setCell ⟨w.heap.size + 1 + 1 + 1, 0, none⟩ (.slice ya e'.n yc)).setCell ⟨w.heap.size + 1 + 1 + 1, 1, none⟩ (.bool e'.p) = w6 at HST HK ⊢
        have r0 := HST.out.c0
        have r1 := HST.out.c1
        go_wp2_with fail
        refine bodyPost_ret (v := .tuple #[.agg #[.slice ya e'.n yc, .bool e'.p], .bool true]) (by simp [results, Try.results37, go_sem, r0, r1]) rfl ⟨ya, e'.n, yc, by rw [hT.out], by rw [hT.out]; exact (HY.out.keeps HK.out (fun b hb hS => by have := (HY.out.lt hb).1; have := HW3.out; omega)).mono (by have := HW3.out; omega), HB.out.trans (HK.out.below (by have := HB.out.size; omega) (fun q hq hS => by omega))⟩
end Go.Proofs.Ytnfkkkjookfdiaa
