/- ArrayNew: what the program's and the reference's return. -/
import Derived.Test.YtnfkkkjookfdiaaFlpW
import Derived.Test.YtnfkkkjookfdiaaStA
import Derived.Test.YtnfkkkjookfdiaaIn4
import Derived.Test.YtnfkkkjookfdiaaLineW
import Derived.OwnWalk
namespace Go.Proofs.Ytnfkkkjookfdiaa
open Go.RowKit

/-- A slice of ints made, as one operation of a region that draws. -/
theorem wp_make_ints {o : Oper} {ac : Act} {K : Act → World → Prop} {Q : Exit → Act → World → Prop} (l c : Operand) (ho : o.op = .makeSlice 22 l c) (w : World) (n : Nat) (L : Int)
    (hl : ac.eval l = .int .i64 L) (hc : ac.eval c = .int .i64 L) (hL : L = (n : Int)) (hn : n ≤ 1048576)
    (h : ∀ w', OwnS w' w.heap.size (some ⟨w.heap.size, 0, none⟩) n n (List.replicate n 0) → Below w.heap.size w w' → K (ac.put o.dst (.slice (some ⟨w.heap.size, 0, none⟩) n n)) w') : o.wp Try.prog ac w K Q := by
  obtain ⟨i0, hi, hz0, hz1, hz2⟩ := info_parts infoInt
  obtain ⟨w', hrun, r1, r2⟩ := run_make_full (P := Try.prog) w w.heap.size 22 3 i0 (.int .i64 0) 1 Try.underlying22 hi hz0 hz1 .i64 .i64 n (by rw [hz2]; omega) (by unfold maxLen; omega) (Nat.le_refl _)
  subst hL
  unfold Oper.wp
  simp [execOp, ho, hl, hc, hrun, Result.andThen]
  exact h w' (OwnS.of_row (IRow.made r1) (Nat.le_refl _)) ((Below.refl _ _).grown r2 (Nat.le_refl _) (fun k h => by cases h))
def zeros11 : List Int := List.replicate 11 0
theorem line0 : lineR 0 = zeros11 := by decide +kernel
/-- The array as it is made. -/
def newA (G : Geo) : ArrD := ⟨List.replicate (lineN G).toNat (zeros11, false), List.replicate (rowsN G).toNat 0, List.replicate (rowsN G).toNat 0⟩
def cellZ : CellE := ⟨none, 11, 11, zeros11, false⟩
def newE (G : Geo) (n : Nat) : ArrE := ⟨⟨none, (lineN G).toNat, (lineN G).toNat⟩, ⟨none, n, n⟩, ⟨none, n, n⟩, List.replicate (lineN G).toNat cellZ, List.replicate n 0, List.replicate n 0⟩
theorem newE_d (G : Geo) : (newE G (rowsN G).toNat).d = newA G := by simp [newE, newA, ArrE.d, cellZ, CellE.d]
theorem newA_small (G : Geo) : (newA G).small := by
  have h1 := rowsN_bd G
  have h2 : (lineN G).toNat ≤ 1024 := by have := (lineN_bd G).2; omega
  refine ⟨by simp [newA]; omega, fun i x hx => ?_, ?_, by simp [newA]; omega, by simp [newA]; omega⟩
  · have := List.mem_of_getElem? hx
    have := List.eq_of_mem_replicate this
    subst this
    decide
  · have : ∀ k : Nat, sumC ((List.replicate k (zeros11, false)).map fun q : List Int × Bool => q.1.length) = 12 * k := by
      intro k
      induction k with
      | zero => rfl
      | succ k ih => rw [List.replicate_succ, List.map_cons, sumC, ih]; simp [zeros11]; omega
    show sumC ((List.replicate (lineN G).toNat (zeros11, false)).map fun q : List Int × Bool => q.1.length) ≤ _
    rw [this]; omega
theorem CpS.old {W : World} {A : ArrE} {g : Nat} {a1 : Option Addr} {c1 : Nat} {a2 : Option Addr} {c2 k : Nat} {a0 : Option Addr} {c0 : Nat} {es : List CellE} {w w' : World} (h : CpS W A g a1 c1 a2 c2 k a0 c0 es w) (hb : Below w.heap.size w w') : CpS W A g a1 c1 a2 c2 k a0 c0 es w' :=
  ⟨below_step h.bel hb (Nat.le_refl _), h.lo, (hb.block g (lt_of_heap h.blk)).trans h.blk, (h.own.old hb).up hb.size (Nat.le_refl _), h.data, h.s1.old hb, h.s2.old hb, h.d12, h.d01, h.d02⟩
theorem newOwn {W : World} {G : Geo} {g m : Nat} {a1 : Option Addr} {c1 : Nat} {a2 : Option Addr} {c2 k b0 r : Nat} {a0 : Option Addr} {c0 : Nat} {es : List CellE} {w w' : World} (h : CpS W (newE G m) g a1 c1 a2 c2 k a0 c0 es w) (hk : Keeps (fun b => b = r) w w') (hr : r < W.heap.size) (hb : b0 ≤ W.heap.size) :
    OwnA w' b0 w'.heap.size ⟨⟨a0, k, c0⟩, ⟨a1, m, c1⟩, ⟨a2, m, c2⟩, es, List.replicate m 0, List.replicate m 0⟩ := by
  have hs := hk.size
  have h1 := (h.s1.keeps hk (fun b hb hS => by have := (h.s1.lt hb).1; omega)).mono hb
  have h2 := (h.s2.keeps hk (fun b hb hS => by have := (h.s2.lt hb).1; omega)).mono hb
  exact ⟨((h.own.keeps hk (fun b hb hS => by have := hb.1; omega)).up hs (Nat.le_refl _)).mono hb, h1, h2, fun b hb => (h1.lt hb).2, fun b hb => (h2.lt hb).2, h.d12, h.d01, h.d02⟩
theorem newData {W : World} {G : Geo} {g m : Nat} {a1 : Option Addr} {c1 : Nat} {a2 : Option Addr} {c2 k : Nat} {a0 : Option Addr} {c0 : Nat} {es : List CellE} {w : World} {s0 s1 s2 : SlD} (h : CpS W (newE G m) g a1 c1 a2 c2 k a0 c0 es w) (hk : k = (lineN G).toNat) (hm : rowsN G = (m : Int)) :
    (⟨s0, s1, s2, es, List.replicate m 0, List.replicate m 0⟩ : ArrE).d = newA G := by
  have hd := h.data
  have e : (rowsN G).toNat = m := by omega
  simp only [ArrE.d, newA, hd, e, newE, hk]
  simp [cellZ, CellE.d]
set_option maxRecDepth 100000 in
theorem implArrayNew_any (G : Geo) (w : World) :
    Calls Try.prog 34 #[.agg #[.int .i64 G.a, .int .i64 G.b, .int .i64 G.r, .int .i64 G.c]] w fun e w' => ∃ A' : ArrE, e = .returned (.agg #[.slice A'.s0.a A'.s0.n A'.s0.c, .slice A'.s1.a A'.s1.n A'.s1.c, .slice A'.s2.a A'.s2.n A'.s2.c]) ∧ OwnA w' w.heap.size w'.heap.size A' ∧ A'.d = newA G ∧ Below w.heap.size w w' := by
  obtain ⟨W, hW⟩ : ∃ W, W = (w.alloc (.cells #[.int .i64 G.a, .int .i64 G.b, .int .i64 G.r, .int .i64 G.c] 37)).alloc (.cells #[.slice none 0 0, .slice none 0 0, .slice none 0 0] 41) := ⟨_, rfl⟩
  have HB : Hid (Below w.heap.size w W) := by rw [hW]; exact hid (below_alloc2 _ _ _)
  have HXG : Hid (BoxG W w.heap.size G) := by rw [hW]; exact hid ((BoxG.new_ w 37 G rfl).old (below_alloc _ _))
  have HXR : Hid (BoxN W (w.heap.size + 1)) := by rw [hW]; exact hid (by simpa using BoxN.new (w.alloc (.cells #[.int .i64 G.a, .int .i64 G.b, .int .i64 G.r, .int .i64 G.c] 37)))
  go_enter Try.func34, Try.ntmps34
  have o0 := HXG.out
  rw [hW] at o0
  obtain ⟨l0, oG0, oG1, oG2, oG3⟩ := o0
  go_wp2_with fail
  clear l0 oG0 oG1 oG2 oG3
  rw [← hW]
  clear hW
  refine (implGeometryOk_any G _).mono ?_
  rintro e w2 ⟨rfl, B⟩
  have HXG := hid (HXG.out.old B)
  have HXR := hid (HXR.out.old B)
  have HB := hid (below_step HB.out B (Nat.le_refl _))
  clear B
  cases hg : gOk G with
  | false =>
    have hn : newA G = ⟨[], [], []⟩ := by simp [newA, lineN, rowsN, hg]
    have HN := hid hn
    clear hn
    have r0 := HXR.out.c0
    have r1 := HXR.out.c1
    have r2 := HXR.out.c2
    have fr := HXR.out.fr
    have K := stored_keeps w2 (w.heap.size + 1) (.slice none 0 0) (.slice none 0 0) (.slice none 0 0)
    have HK := hid K
    clear K
    go_wp2_with fail
    refine bodyPost_ret (v := .agg #[.slice none 0 0, .slice none 0 0, .slice none 0 0]) (by simp [results, Try.results34, go_sem, r0, r1, r2]) rfl ⟨⟨⟨none, 0, 0⟩, ⟨none, 0, 0⟩, ⟨none, 0, 0⟩, [], [], []⟩, rfl, ?_, by rw [HN.out]; rfl, ?_⟩
    · exact ⟨(OwnC.none_ _ _ (by have := HB.out.size; have := HK.out.size; omega)), OwnS.empty _ _ _ _, OwnS.empty _ _ _ _, fun b hb => absurd rfl hb.1, fun b hb => absurd rfl hb.1, fun b hb => absurd rfl hb.1, fun i e he => by simp at he, fun i e he => by simp at he⟩
    · exact HB.out.trans (HK.out.below (by have := HB.out.size; omega) (fun q hq hS => by omega))
  | true =>
    have HGO := hid hg
    have h1 := (wrapR G hg).2
    have hov := over_cell w2
    obtain ⟨hlt, c0, c1, c2, c3⟩ := HXG.out
    clear hg
    go_wp2_with fail
    refine wp_region_over (by kernel_rfl) (by kernel_rfl) ?_
    repeat (go_big_quiet_step ((go_at_call 67; exact calls_over (implBankCount_any _ _))))
    refine wpQuiet_nil ?_
    intro W1 B1
    have HXG := hid (HXG.out.old B1)
    have HXR := hid (HXR.out.old B1)
    have HB := hid (below_step HB.out B1 (Nat.le_refl _))
    clear hov c0 c1 c2 c3 hlt B1 h1
    go_wp2_with fail
    obtain ⟨m, hm⟩ : ∃ m : Nat, rowsN G = (m : Int) := ⟨(rowsN G).toNat, by have := (rowsN_bd G).1; omega⟩
    have hm1 : m ≤ 1048576 := by have := (rowsN_bd G).2; omega
    have hm0 : 0 < m := by
      have e3 := bankN_pos HGO.out
      obtain ⟨_, _, ⟨q0, q1⟩, _⟩ := gOk_iff.1 HGO.out
      rw [rowsN_yes HGO.out] at hm
      have e4 := mul_le_of (show 0 ≤ bankN G - 1 by omega) (show bankN G - 1 ≤ 7 by have := (bankN_bd G).2; omega) (show 0 ≤ G.r by omega) q1
      have e5 : (bankN G - 1) * G.r = bankN G * G.r - G.r := by rw [Int.sub_mul, Int.one_mul]
      omega
    have HM := hid hm
    clear hm
    refine grow4_of 6 (fr := ?fr1)
      (fun i v w' => match i with
        | 0 => v = .int .i64 (rowsN G)
        | 1 => ∃ g : Nat, v = .slice (some ⟨g, 0, none⟩) m m ∧ OwnS w' W1.heap.size (some ⟨g, 0, none⟩) m m (List.replicate m 0)
        | 2 => v = .int .i64 (rowsN G)
        | 3 => ∃ g : Nat, v = .slice (some ⟨g, 0, none⟩) m m ∧ OwnS w' W1.heap.size (some ⟨g, 0, none⟩) m m (List.replicate m 0)
        | 4 => ∃ g1 g2 : Nat, v = .agg #[.slice none 0 0, .slice (some ⟨g1, 0, none⟩) m m, .slice (some ⟨g2, 0, none⟩) m m] ∧ OwnS w' W1.heap.size (some ⟨g1, 0, none⟩) m m (List.replicate m 0) ∧ OwnS w' W1.heap.size (some ⟨g2, 0, none⟩) m m (List.replicate m 0) ∧ g1 ≠ g2
        | _ => ∃ g : Nat, v = .pointer (some ⟨g, 0, none⟩) ∧ W1.heap.size ≤ g ∧ BoxN w' g)
      (fun vs => ∀ g1 g2 : Nat, vs 1 = .slice (some ⟨g1, 0, none⟩) m m → vs 3 = .slice (some ⟨g2, 0, none⟩) m m → g1 ≠ g2)
      (by kernel_rfl) (by kernel_rfl) rfl ?hlast1 ?hfr1 ?h01 ?hD1 ?hF1 ?hstep1 ?hend1
    case hfr1 => intro vs; simp only [frOf, List.take_succ_cons, List.take_zero]; go_simp; exact rfl
    case h01 => rfl
    case hD1 => intro g1 g2 e1; cases e1
    case hlast1 =>
      intro o ho i hi
      simp only [List.getElem?_cons_succ, List.getElem?_cons_zero, Option.some.injEq] at ho
      subst ho
      match i, hi with
      | 0, _ => show (_ : Bool) = true; kernel_rfl
      | 1, _ => show (_ : Bool) = true; kernel_rfl
      | 2, _ => show (_ : Bool) = true; kernel_rfl
      | 3, _ => show (_ : Bool) = true; kernel_rfl
      | 4, _ => show (_ : Bool) = true; kernel_rfl
      | 5, _ => show (_ : Bool) = true; kernel_rfl
    case hF1 =>
      intro i v w' w'' h hb
      match i, h with
      | 0, h => exact h
      | 1, h => obtain ⟨g, e, o⟩ := h; exact ⟨g, e, o.old hb⟩
      | 2, h => exact h
      | 3, h => obtain ⟨g, e, o⟩ := h; exact ⟨g, e, o.old hb⟩
      | 4, h => obtain ⟨g1, g2, e, o1, o2, hne⟩ := h; exact ⟨g1, g2, e, o1.old hb, o2.old hb, hne⟩
      | n + 5, h => obtain ⟨g, e, l, o⟩ := h; exact ⟨g, e, l, o.old hb⟩
    case hstep1 =>
      intro vs w' i o hin ho hb hDv hall hd
      match i, ho, hin with
      | 0, ho, _ =>
        simp only [List.getElem?_cons_zero, Option.some.injEq] at ho
        subst ho
        refine ⟨wanted_none rfl, ?_⟩
        generalize hK : (fun (a' : Act) (w'' : World) => ∃ v : Value, _ ∧ _ ∧ _ ∧ _) = K
        go_simp
        rw [← hK]
        exact ⟨_, rfl, rfl, Below.refl _ _, fun g1 g2 e1 e3 => hDv g1 g2 (by simpa [upd] using e1) (by simpa [upd] using e3)⟩
      | 1, ho, _ =>
        simp only [List.getElem?_cons_succ, List.getElem?_cons_zero, Option.some.injEq] at ho
        subst ho
        refine ⟨wanted_none rfl, ?_⟩
        have e0 : vs 0 = .int .i64 (rowsN G) := hd 0 (by kernel_rfl)
        have key : ∀ g2, vs 3 = .slice (some ⟨g2, 0, none⟩) m m → g2 < w'.heap.size := fun g2 e3 => by
          rcases hall 3 (by decide) with h | ⟨g, e, O⟩
          · rw [e3] at h; cases h
          · rw [e3] at e
            simp only [Value.slice.injEq, Option.some.injEq, Addr.mk.injEq, and_true] at e
            subst e
            exact (O.lt ⟨by omega, rfl⟩).2
        generalize hK : (fun (a' : Act) (w'' : World) => ∃ v : Value, _ ∧ _ ∧ _ ∧ _) = K
        refine wp_make_ints _ _ rfl w' m (rowsN G) (by exact e0) (by exact e0) HM.out hm1 ?_
        intro w2 O B
        rw [← hK]
        refine ⟨_, rfl, ⟨_, rfl, O.mono hb.size⟩, B, fun g1 g2 e1 e3 => ?_⟩
        have q := key g2 (by simpa [upd] using e3)
        simp [upd] at e1
        omega
      | 2, ho, _ =>
        simp only [List.getElem?_cons_succ, List.getElem?_cons_zero, Option.some.injEq] at ho
        subst ho
        refine ⟨wanted_none rfl, ?_⟩
        generalize hK : (fun (a' : Act) (w'' : World) => ∃ v : Value, _ ∧ _ ∧ _ ∧ _) = K
        go_simp
        rw [← hK]
        exact ⟨_, rfl, rfl, Below.refl _ _, fun g1 g2 e1 e3 => hDv g1 g2 (by simpa [upd] using e1) (by simpa [upd] using e3)⟩
      | 3, ho, _ =>
        simp only [List.getElem?_cons_succ, List.getElem?_cons_zero, Option.some.injEq] at ho
        subst ho
        refine ⟨wanted_none rfl, ?_⟩
        have e0 : vs 2 = .int .i64 (rowsN G) := hd 2 (by kernel_rfl)
        have key : ∀ g2, vs 1 = .slice (some ⟨g2, 0, none⟩) m m → g2 < w'.heap.size := fun g2 e3 => by
          rcases hall 1 (by decide) with h | ⟨g, e, O⟩
          · rw [e3] at h; cases h
          · rw [e3] at e
            simp only [Value.slice.injEq, Option.some.injEq, Addr.mk.injEq, and_true] at e
            subst e
            exact (O.lt ⟨by omega, rfl⟩).2
        generalize hK : (fun (a' : Act) (w'' : World) => ∃ v : Value, _ ∧ _ ∧ _ ∧ _) = K
        refine wp_make_ints _ _ rfl w' m (rowsN G) (by exact e0) (by exact e0) HM.out hm1 ?_
        intro w2 O B
        rw [← hK]
        refine ⟨_, rfl, ⟨_, rfl, O.mono hb.size⟩, B, fun g1 g2 e1 e3 => ?_⟩
        have q := key g1 (by simpa [upd] using e1)
        simp [upd] at e3
        omega
      | 4, ho, _ =>
        simp only [List.getElem?_cons_succ, List.getElem?_cons_zero, Option.some.injEq] at ho
        subst ho
        refine ⟨wanted_none rfl, ?_⟩
        obtain ⟨g1, e1, O1⟩ := hd 1 (by kernel_rfl)
        obtain ⟨g2, e2, O2⟩ := hd 3 (by kernel_rfl)
        have hne := hDv g1 g2 e1 e2
        generalize hK : (fun (a' : Act) (w'' : World) => ∃ v : Value, _ ∧ _ ∧ _ ∧ _) = K
        go_simp
        rw [← hK]
        exact ⟨_, by simp [upd, e1, e2], ⟨g1, g2, rfl, O1, O2, hne⟩, Below.refl _ _, fun g1 g2 e1 e3 => hDv g1 g2 (by simpa [upd] using e1) (by simpa [upd] using e3)⟩
      | 5, ho, _ =>
        simp only [List.getElem?_cons_succ, List.getElem?_cons_zero, Option.some.injEq] at ho
        subst ho
        refine ⟨wanted_none rfl, ?_⟩
        generalize hK : (fun (a' : Act) (w'' : World) => ∃ v : Value, _ ∧ _ ∧ _ ∧ _) = K
        go_simp
        rw [← hK]
        exact ⟨_, rfl, ⟨_, rfl, hb.size, BoxN.new _⟩, below_alloc _ _, fun g1 g2 e1 e3 => hDv g1 g2 (by simpa [upd] using e1) (by simpa [upd] using e3)⟩
      | n + 6, _, hin => exact absurd hin (by omega)
    case hend1 =>
      intro vs w' o ho hb hDv hf
      simp only [List.getElem?_cons_succ, List.getElem?_cons_zero, Option.some.injEq] at ho
      subst ho
      refine ⟨wanted_none rfl, ?_⟩
      obtain ⟨g1, g2, er, O1, O2, hne⟩ := hf 4 (by decide)
      obtain ⟨g, ep, hg, N⟩ := hf 5 (by decide)
      generalize vs 4 = ur at er ⊢
      subst er
      generalize vs 5 = up at ep ⊢
      subst ep
      have c0 := N.c0
      have c1 := N.c1
      have c2 := N.c2
      have fr := N.fr
      go_simp
      clear c0 c1 c2 fr
      generalize hw : (((w'.setCell ⟨g, 0, none⟩ (.slice none 0 0)).setCell ⟨g, 1, none⟩ (.slice (some ⟨g1, 0, none⟩) m m)).setCell ⟨g, 2, none⟩ (.slice (some ⟨g2, 0, none⟩) m m)) = W2
      have K : Keeps (fun b => b = g) w' W2 := by rw [← hw]; exact stored_keeps _ _ _ _ _
      have hblk : W2.heap[g]? = some (.cells #[.slice none 0 0, .slice (some ⟨g1, 0, none⟩) m m, .slice (some ⟨g2, 0, none⟩) m m] 41 (0, 0)) := by rw [← hw]; simp [World.setCell, Array.getElem?_modify, N.hh]
      have hbb := hb.trans (K.below hb.size (fun q hq hS => by omega))
      have C0 : CpS W1 (newE G m) g (some ⟨g1, 0, none⟩) m (some ⟨g2, 0, none⟩) m 0 none 0 [] W2 :=
        ⟨hbb, hg, hblk, OwnC.none_ _ _ hbb.size, rfl, O1.keeps K (fun b hb hS => ints_not O1 N.hh (by decide) b hb hS), O2.keeps K (fun b hb hS => ints_not O2 N.hh (by decide) b hb hS),
          fun b hb1 hb2 => hne ((blkS_one hb1 rfl).symm.trans (blkS_one hb2 rfl)), fun i e he => by simp at he, fun i e he => by simp at he⟩
      have HC0 := hid C0
      clear C0 hbb hblk K hw hb hDv hf O1 O2 N hne hg
      have hN1 : (lineN G).toNat ≤ 1024 := by have := (lineN_bd G).2; omega
      go_wp2_with fail
      go_loopw [5] (fun i wr => ∃ (k : Nat) (a0 : Option Addr) (c0 : Nat) (es : List CellE), k ≤ (lineN G).toNat ∧ i = .int .i64 k ∧ Hid (CpS W1 (newE G m) g (some ⟨g1, 0, none⟩) m (some ⟨g2, 0, none⟩) m k a0 c0 es wr)) (fun i _ => (lineN G).toNat - (intOf i).toNat)
      case atStart => exact ⟨0, none, 0, [], Nat.zero_le _, rfl, HC0⟩
      case round =>
        clear HC0
        obtain ⟨k, a0, c0, es, hk, rfl, HC⟩ := hrel
        obtain ⟨hlt, b0, b1, b2, b3⟩ := HXG.out.old HC.out.bel
        go_wp2_with fail
        clear hlt b0 b1 b2 b3
        refine (implLineCount_any G _ HGO.out).mono ?_
        rintro e w3 ⟨rfl, B⟩
        have HC := hid (HC.out.old B)
        clear B
        by_cases hlt : k < (lineN G).toNat
        · have hd : (k : Int) < lineN G := by omega
          have hki : (0 : Int) ≤ (k : Int) := by omega
          have k0 := cell_of_row w3 g 0 _ 41 (0, 0) HC.out.blk
          simp only [List.getElem?_toArray, List.getElem?_cons_zero] at k0
          have HGL := hid (lt_of_heap HC.out.blk)
          have he : (newE G m).es[k]? = some cellZ := by simp [newE, hlt]
          have HE := hid he
          clear he
          have hk0' : k ≤ 1099511627776 := by omega
          go_wp2_with fail
          clear hd
          go_region_law (first
            | (refine step_append_rec recC (by rfl) _ _ (by rfl) w1 W1.heap.size w3.heap.size a0 k c0 es (HC.out.own.old ((below_ofDrewN _ w3 1).trans (hB.out.mono (by simp)))).row (by rfl) ⟨a', n', c', lineR 0, false⟩ _ (by rfl) (by rfl) (by have := HC.out.bel.size; have := hB.out.size; simp at this; omega) hk0' ?_; intro a0' c0' w4 hrow hk2; have own1 := HC.out.own.old ((below_ofDrewN _ w3 1).trans (hB.out.mono (by simp))); have bl1 := ((below_ofDrewN _ w3 1).trans (hB.out.mono (by simp))).block g HGL.out |>.trans HC.out.blk; have bl2 := (hk2.block g (lt_of_heap bl1) (row_not own1.row bl1 (by decide))).trans bl1; have q2 := cell_of_row w4 g 0 _ 41 (0, 0) bl2; have f2 := frozen_of_row w4 g 0 _ 41 bl2; simp only [List.getElem?_toArray, List.getElem?_cons_zero] at q2; clear bl1 bl2 own1; have HRW := hid hrow; have HK2 := hid hk2; clear hrow hk2)
            | (rw [if_pos (by rfl)]; go_simp; refine (implEncodeLine_any 0 _).mono ?_; rintro e1 w1 ⟨a', n', c', rfl, R, B⟩; have q0 := (B.cell (p := ⟨g, 0, none⟩) (by have := HGL.out; simp; omega)).trans k0; have gl1 : g < w1.heap.size := World.block_lt_of_cell? w1 _ q0; have hB := hid B; have hRR := hid R; clear R B; dsimp only))
          all_goals
            have C3 := HC.out.step (y := ⟨a', n', c', lineR 0, false⟩) HE.out (by show (lineR 0, false) = (zeros11, false); rw [line0]) ((below_ofDrewN _ w3 1).trans (hB.out.mono (by simp))) (hRR.out.mono (by simp)) HRW.out HK2.out rfl
            have HC3 := hid C3
            clear C3 HC HRW HK2 hB hRR q0 q2 f2
            go_wp2
            go_roundw
            case rel => exact ⟨k + 1, _, _, _, by omega, by go_num, HC3⟩
            case measure => simp [intOf]; omega
        · have hkn : k = (lineN G).toNat := by omega
          have hnn : ¬ (k : Int) < lineN G := by have := (lineN_bd G).1; omega
          have hblk : w3.heap[g]? = some (.cells #[.slice a0 k c0, .slice (some ⟨g1, 0, none⟩) m m, .slice (some ⟨g2, 0, none⟩) m m] 41 (0, 0)) := HC.out.blk
          have v0 := cell_of_row w3 g 0 _ 41 (0, 0) hblk
          have v1 := cell_of_row w3 g 1 _ 41 (0, 0) hblk
          have v2 := cell_of_row w3 g 2 _ 41 (0, 0) hblk
          simp only [List.getElem?_toArray, List.getElem?_cons_zero, List.getElem?_cons_succ] at v0 v1 v2
          have HXR3 := hid (HXR.out.old HC.out.bel)
          have r0 := HXR3.out.c0
          have r1 := HXR3.out.c1
          have r2 := HXR3.out.c2
          have fr := HXR3.out.fr
          have K := stored_keeps w3 (w.heap.size + 1) (.slice a0 k c0) (.slice (some ⟨g1, 0, none⟩) m m) (.slice (some ⟨g2, 0, none⟩) m m)
          have HK := hid K
          have HKN := hid hkn
          clear K hkn hk hlt hblk
          go_wp2_with fail
          refine bodyPost_ret (v := .agg #[.slice a0 k c0, .slice (some ⟨g1, 0, none⟩) m m, .slice (some ⟨g2, 0, none⟩) m m]) (by simp [results, Try.results34, go_sem, r0, r1, r2]) rfl ⟨⟨⟨a0, k, c0⟩, ⟨some ⟨g1, 0, none⟩, m, m⟩, ⟨some ⟨g2, 0, none⟩, m, m⟩, es, List.replicate m 0, List.replicate m 0⟩, rfl, ?_, ?_, ?_⟩
          · exact newOwn HC.out HK.out (by have := HXR.out.lt; omega) HB.out.size
          · exact newData HC.out HKN.out HM.out
          · exact (below_step HB.out HC.out.bel (Nat.le_refl _)).trans (HK.out.below (by have := HB.out.size; have := HC.out.bel.size; omega) (fun q hq hS => by omega))
end Go.Proofs.Ytnfkkkjookfdiaa
