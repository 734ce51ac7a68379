/- ArrayNew: the reference's side. -/
import Derived.Test.YtnfkkkjookfdiaaNewW
import Derived.Test.YtnfkkkjookfdiaaIn7
import Derived.Deep.Cut
namespace Go.Proofs.Ytnfkkkjookfdiaa
open Go.RowKit
/-- A record's cells lie at the head of block h. -/
def RecAt (w : World) (h : Nat) (y : CellE) : Prop := h < w.heap.size ∧ ∀ j u, (encC y)[j]? = some u → w.cell? ((⟨h, 0, none⟩ : Addr).add j) = some u
theorem RecAt.old {w w' : World} {h : Nat} {y : CellE} (r : RecAt w h y) (b : Below w.heap.size w w') : RecAt w' h y := by
  refine ⟨Nat.lt_of_lt_of_le r.1 b.size, fun j u hu => ?_⟩
  have e : ((⟨h, 0, none⟩ : Addr).add j).block = h := by unfold Addr.add; split <;> rfl
  exact (b.cell (p := (⟨h, 0, none⟩ : Addr).add j) (by rw [e]; exact r.1)).trans (r.2 j u hu)
theorem RecAt.new (w : World) (T : TypeId) (y : CellE) : RecAt (w.alloc (.cells #[.slice y.a y.n y.c, .bool y.p] T)) w.heap.size y := by
  refine ⟨by simp, fun j u hu => ?_⟩
  match j, hu with
  | 0, hu => simp [encC] at hu; subst hu; exact box_at w [.slice y.a y.n y.c, .bool y.p] T 0
  | 1, hu => simp [encC] at hu; subst hu; exact box_at w [.slice y.a y.n y.c, .bool y.p] T 1
  | n + 2, hu => simp [encC] at hu
theorem wrapR_any (G : Geo) : IntKind.i64.wrap (bankN G * G.r) = rowsN G := by
  cases hg : gOk G with
  | true => exact (wrapR G hg).2
  | false => rw [rowsN_no hg, bankN, if_neg (by simp [hg]), Int.zero_mul]; rfl
/-- An array under way: m ages, n hits. -/
def newF (G : Geo) (m n : Nat) : ArrE := ⟨⟨none, (lineN G).toNat, (lineN G).toNat⟩, ⟨none, m, m⟩, ⟨none, n, n⟩, List.replicate (lineN G).toNat cellZ, List.replicate m 0, List.replicate n 0⟩
theorem CpS.row1 {W : World} {G : Geo} {g m g1 k : Nat} {a0 : Option Addr} {c0 : Nat} {es : List CellE} {w w1 w2 : World} (h : CpS W (newF G 0 0) g none 0 none 0 k a0 c0 es w)
    (b : Below w.heap.size w w1) (o : OwnS w1 w.heap.size (some ⟨g1, 0, none⟩) m m (List.replicate m 0)) (hw : w2 = w1.setCell ⟨g, 1, none⟩ (.slice (some ⟨g1, 0, none⟩) m m)) :
    CpS W (newF G m 0) g (some ⟨g1, 0, none⟩) m none 0 k a0 c0 es w2 := by
  have hg := lt_of_heap h.blk
  have hb := b.size
  have hl := h.lo
  have hbs := h.bel.size
  have blk1 := (b.block g hg).trans h.blk
  have own1 := h.own.old b
  have K : Keeps (fun b => b = g) w1 w2 := by rw [hw]; exact (Keeps.refl _ _).set ⟨g, 1, none⟩ _ rfl
  have ks := K.size
  have blk2 : w2.heap[g]? = some (.cells #[.slice a0 k c0, .slice (some ⟨g1, 0, none⟩) m m, .slice none 0 0] 41 (0, 0)) := by
    rw [hw]; simp [World.setCell, Array.getElem?_modify, blk1, newF]
  refine ⟨(below_step h.bel b (Nat.le_refl _)).trans (K.below (by omega) (fun q hq hS => by omega)), h.lo, blk2, ?_, h.data, (o.mono (by omega)).keeps K (ints_not o blk1 (by decide)), OwnS.empty _ _ _ _, fun b _ hb => absurd rfl hb.1, fun i e he b hb hb' => ?_, fun i e he b hb hb' => absurd rfl hb'.1⟩
  · exact (own1.cells_keep K (fun i f hf b hb hS => ints_not (own1.own i f hf) blk1 (by decide) b hb hS) (fun b hS => by rw [hS]; exact row_not own1.row blk1 (by decide))).up (by omega) (Nat.le_refl _)
  · have := (o.lt hb').1; have := own1.top i e he b hb; omega
theorem CpS.row2 {W : World} {G : Geo} {g m g2 k : Nat} {a0 a1 : Option Addr} {c0 c1 : Nat} {es : List CellE} {w w1 w2 : World} (h : CpS W (newF G m 0) g a1 c1 none 0 k a0 c0 es w)
    (b : Below w.heap.size w w1) (o : OwnS w1 w.heap.size (some ⟨g2, 0, none⟩) m m (List.replicate m 0)) (hw : w2 = w1.setCell ⟨g, 2, none⟩ (.slice (some ⟨g2, 0, none⟩) m m)) :
    CpS W (newE G m) g a1 c1 (some ⟨g2, 0, none⟩) m k a0 c0 es w2 := by
  have hg := lt_of_heap h.blk
  have hb := b.size
  have hl := h.lo
  have hbs := h.bel.size
  have blk1 := (b.block g hg).trans h.blk
  have own1 := h.own.old b
  have s1 := h.s1.old b
  have K : Keeps (fun b => b = g) w1 w2 := by rw [hw]; exact (Keeps.refl _ _).set ⟨g, 2, none⟩ _ rfl
  have ks := K.size
  have blk2 : w2.heap[g]? = some (.cells #[.slice a0 k c0, .slice a1 m c1, .slice (some ⟨g2, 0, none⟩) m m] 41 (0, 0)) := by
    rw [hw]; simp [World.setCell, Array.getElem?_modify, blk1, newF]
  refine ⟨(below_step h.bel b (Nat.le_refl _)).trans (K.below (by omega) (fun q hq hS => by omega)), h.lo, blk2, ?_, h.data, s1.keeps K (ints_not s1 blk1 (by decide)), (o.mono (by omega)).keeps K (ints_not o blk1 (by decide)), fun b hb hb' => ?_, h.d01, fun i e he b hb hb' => ?_⟩
  · exact (own1.cells_keep K (fun i f hf b hb hS => ints_not (own1.own i f hf) blk1 (by decide) b hb hS) (fun b hS => by rw [hS]; exact row_not own1.row blk1 (by decide))).up (by omega) (Nat.le_refl _)
  · have := (o.lt hb').1; have := (h.s1.lt hb).2; omega
  · have := (o.lt hb').1; have := own1.top i e he b hb; omega
set_option maxRecDepth 100000 in
theorem specArrayNew_any (G : Geo) (w : World) :
    Calls Try.prog 33 #[.agg #[.int .i64 G.a, .int .i64 G.b, .int .i64 G.r, .int .i64 G.c]] w fun e w' => ∃ A' : ArrE, e = .returned (.agg #[.slice A'.s0.a A'.s0.n A'.s0.c, .slice A'.s1.a A'.s1.n A'.s1.c, .slice A'.s2.a A'.s2.n A'.s2.c]) ∧ OwnA w' w.heap.size w'.heap.size A' ∧ A'.d = newA G ∧ Below w.heap.size w w' := by
  obtain ⟨W, hW⟩ : ∃ W, W = (w.alloc (.cells #[.int .i64 G.a, .int .i64 G.b, .int .i64 G.r, .int .i64 G.c] 37)).alloc (.cells #[.slice none 0 0, .slice none 0 0, .slice none 0 0] 41) := ⟨_, rfl⟩
  have HB : Hid (Below w.heap.size w W) := by rw [hW]; exact hid (below_alloc2 _ _ _)
  have HXG : Hid (BoxG W w.heap.size G) := by rw [hW]; exact hid ((BoxG.new_ w 37 G rfl).old (below_alloc _ _))
  have HXR : Hid (BoxN W (w.heap.size + 1)) := by rw [hW]; exact hid (by simpa using BoxN.new (w.alloc (.cells #[.int .i64 G.a, .int .i64 G.b, .int .i64 G.r, .int .i64 G.c] 37)))
  have hN1 : (lineN G).toNat ≤ 1024 := by have := (lineN_bd G).2; omega
  obtain ⟨W3, hW3⟩ : ∃ W3, W3 = W.alloc (.cells #[.slice none 0 0, .slice none 0 0, .slice none 0 0] 41) := ⟨_, rfl⟩
  obtain ⟨g, hg⟩ : ∃ g, g = W.heap.size := ⟨_, rfl⟩
  have C0 : CpS W (newE G 0) g none 0 none 0 0 none 0 [] W3 := by
    rw [hW3, hg]
    exact ⟨below_alloc _ _, Nat.le_refl _, (BoxN.new W).hh, OwnC.none_ _ _ (below_alloc W _).size, rfl, OwnS.empty _ _ _ _, OwnS.empty _ _ _ _, fun b hb => absurd rfl hb.1, fun i e he => by simp at he, fun i e he => by simp at he⟩
  have HC0 := hid C0
  clear C0
  go_enter Try.func33, Try.ntmps33
  go_wp2_with fail
  have hgw : w.heap.size + 1 + 1 = g := by rw [hg, hW]; simp
  rw [← hW, ← hW3, hgw]
  have HGW := hid hgw
  clear hW hW3 hg hgw
  go_loopw [4] (fun i wr => ∃ (k : Nat) (a0 : Option Addr) (c0 : Nat) (es : List CellE), k ≤ (lineN G).toNat ∧ i = .int .i64 k ∧ Hid (CpS W (newE G 0) g none 0 none 0 k a0 c0 es wr)) (fun i _ => (lineN G).toNat - (intOf i).toNat)
  case atStart => exact ⟨0, none, 0, [], Nat.zero_le _, rfl, HC0⟩
  case round =>
    clear HC0
    obtain ⟨k, a0, c0, es, hk, rfl, HC⟩ := hrel
    obtain ⟨hlt, b0, b1, b2, b3⟩ := HXG.out.old HC.out.bel
    go_wp2_with fail
    clear hlt b0 b1 b2 b3
    refine (specLineCount_any G _).mono ?_
    rintro e w3 ⟨rfl, B⟩
    have HC := hid (HC.out.old B)
    clear B
    by_cases hlt : k < (lineN G).toNat
    · have hd : (k : Int) < lineN G := by omega
      have hki : (0 : Int) ≤ (k : Int) := by omega
      have k0 := cell_of_row w3 g 0 _ 41 (0, 0) HC.out.blk
      simp only [List.getElem?_toArray, List.getElem?_cons_zero] at k0
      have HGL := hid (lt_of_heap HC.out.blk)
      have he : (newE G 0).es[k]? = some cellZ := by simp [newE, hlt]
      have HE := hid he
      clear he
      have hk0' : k ≤ 1099511627776 := by omega
      go_wp2_with fail
      clear hd
      refine growR_of 5 (fr := ?fr1)
        (fun i v w' => match i with
          | 0 => v = .pointer (some ⟨g, 0, none⟩)
          | 1 => v = .slice a0 k c0
          | 2 => ∃ gm : Nat, v = .slice (some ⟨gm, 0, none⟩) 11 11 ∧ OwnS w' w3.heap.size (some ⟨gm, 0, none⟩) 11 11 zeros11
          | 3 => ∃ gm : Nat, v = .agg #[.slice (some ⟨gm, 0, none⟩) 11 11, .bool false] ∧ OwnS w' w3.heap.size (some ⟨gm, 0, none⟩) 11 11 zeros11
          | _ => ∃ h gm : Nat, v = .slice (some ⟨h, 0, none⟩) 1 1 ∧ OwnS w' w3.heap.size (some ⟨gm, 0, none⟩) 11 11 zeros11 ∧ RecAt w' h ⟨some ⟨gm, 0, none⟩, 11, 11, zeros11, false⟩)
        (by kernel_rfl) (by kernel_rfl) (by decide) (by kernel_rfl) ?hfr1 ?h01 ?hF1 ?hstep1 ?hend1
      case hfr1 => intro vs; simp only [frOf, List.take_succ_cons, List.take_zero]; go_simp; exact rfl
      case h01 => exact ⟨fun i => [u13, u14, u15, u16, u17].getD i undef, rfl⟩
      case hF1 =>
        intro i v w' w'' h hb
        match i, h with
        | 0, h => exact h
        | 1, h => exact h
        | 2, h => obtain ⟨gm, e, o⟩ := h; exact ⟨gm, e, o.old hb⟩
        | 3, h => obtain ⟨gm, e, o⟩ := h; exact ⟨gm, e, o.old hb⟩
        | n + 4, h => obtain ⟨h, gm, e, o, r⟩ := h; exact ⟨h, gm, e, o.old hb, r.old hb⟩
      case hstep1 =>
        intro vs w' i o hin ho hb hd
        match i, ho, hin with
        | 0, ho, _ =>
          simp only [List.getElem?_cons_zero, Option.some.injEq] at ho
          subst ho
          refine ⟨wanted_none rfl, ?_⟩
          generalize hK : (fun (a' : Act) (w'' : World) => ∃ v : Value, _ ∧ _ ∧ _) = K
          go_simp
          rw [← hK]
          exact ⟨_, rfl, rfl, Below.refl _ _⟩
        | 1, ho, _ =>
          simp only [List.getElem?_cons_succ, List.getElem?_cons_zero, Option.some.injEq] at ho
          subst ho
          refine ⟨wanted_none rfl, ?_⟩
          have e0 : vs 0 = .pointer (some ⟨g, 0, none⟩) := hd 0 (by kernel_rfl)
          have q0 := (hb.cell (p := ⟨g, 0, none⟩) HGL.out).trans k0
          generalize hK : (fun (a' : Act) (w'' : World) => ∃ v : Value, _ ∧ _ ∧ _) = K
          generalize hup : vs 0 = up at e0 ⊢
          subst e0
          go_simp
          rw [← hK]
          exact ⟨_, by simp [upd, hup], rfl, Below.refl _ _⟩
        | 2, ho, _ =>
          simp only [List.getElem?_cons_succ, List.getElem?_cons_zero, Option.some.injEq] at ho
          subst ho
          refine ⟨wanted_none rfl, ?_⟩
          generalize hK : (fun (a' : Act) (w'' : World) => ∃ v : Value, _ ∧ _ ∧ _) = K
          refine wp_make_ints _ _ rfl w' 11 11 (by rfl) (by rfl) rfl (by decide) ?_
          intro w2 O B
          rw [← hK]
          exact ⟨_, rfl, ⟨_, rfl, O.mono hb.size⟩, B⟩
        | 3, ho, _ =>
          simp only [List.getElem?_cons_succ, List.getElem?_cons_zero, Option.some.injEq] at ho
          subst ho
          refine ⟨wanted_none rfl, ?_⟩
          obtain ⟨gm, e2, O⟩ := hd 2 (by kernel_rfl)
          generalize hK : (fun (a' : Act) (w'' : World) => ∃ v : Value, _ ∧ _ ∧ _) = K
          go_simp
          rw [← hK]
          exact ⟨_, by simp [upd, e2], ⟨gm, rfl, O⟩, Below.refl _ _⟩
        | 4, ho, _ =>
          simp only [List.getElem?_cons_succ, List.getElem?_cons_zero, Option.some.injEq] at ho
          subst ho
          refine ⟨wanted_none rfl, ?_⟩
          obtain ⟨gm, e3, O⟩ := hd 3 (by kernel_rfl)
          generalize hK : (fun (a' : Act) (w'' : World) => ∃ v : Value, _ ∧ _ ∧ _) = K
          generalize hup : vs 3 = u3 at e3 ⊢
          subst e3
          go_simp
          rw [← hK]
          exact ⟨_, by simp [upd, hup], ⟨_, gm, rfl, O.old (below_alloc _ _), RecAt.new _ _ ⟨some ⟨gm, 0, none⟩, 11, 11, zeros11, false⟩⟩, below_alloc _ _⟩
        | n + 5, _, hin => exact absurd hin (by omega)
      case hend1 =>
        intro vs w1 hb hf
        have e1 : vs 1 = .slice a0 k c0 := hf 1 (by decide)
        obtain ⟨h, gm, e4, O, HY⟩ := hf 4 (by decide)
        generalize vs 1 = u1 at e1 ⊢
        subst e1
        generalize vs 4 = u4 at e4 ⊢
        subst e4
        have HO := hid O
        have HB1 := hid hb
        refine wpTail_append_rec recC rfl _ _ rfl w1 W.heap.size w3.heap.size h a0 k c0 es (HC.out.own.old hb).row rfl ⟨some ⟨gm, 0, none⟩, 11, 11, zeros11, false⟩ HY.2 rfl (by have := HC.out.bel.size; have := hb.size; omega) hk0' ?_
        intro a0' c0' w4 hrow hk2
        have own1 := HC.out.own.old hb
        have bl1 := (hb.block g HGL.out).trans HC.out.blk
        have bl2 := (hk2.block g (lt_of_heap bl1) (row_not own1.row bl1 (by decide))).trans bl1
        have q2 := cell_of_row w4 g 0 _ 41 (0, 0) bl2
        have f2 := frozen_of_row w4 g 0 _ 41 bl2
        simp only [List.getElem?_toArray, List.getElem?_cons_zero] at q2
        have HRW := hid hrow
        have HK2 := hid hk2
        clear hrow hk2 bl1 bl2 own1 HY O hb hf
        refine wpTail_plain rfl fun K hK => ?_
        go_simp
        refine hK _ _ ?_
        clear hK K
        refine wpTail_plain rfl fun K hK => ?_
        go_simp
        refine hK _ _ (wpTail_nil ?_)
        clear hK K
        have C3 := HC.out.step (y := ⟨some ⟨gm, 0, none⟩, 11, 11, zeros11, false⟩) HE.out rfl HB1.out HO.out HRW.out HK2.out rfl
        have HC3 := hid C3
        clear C3 HC HRW HK2 HB1 HO q2 f2
        go_wp2
        go_roundw
        case rel => exact ⟨k + 1, _, _, _, by omega, by go_num, HC3⟩
        case measure => simp [intOf]; omega
    · have hkn : k = (lineN G).toNat := by omega
      have hnn : ¬ (k : Int) < lineN G := by have := (lineN_bd G).1; omega
      have HKN := hid hkn
      have HXG3 := hid (HXG.out.old HC.out.bel)
      have hov := over_cell w3
      obtain ⟨hl, c0, c1, c2, c3⟩ := HXG3.out
      have h1 := wrapR_any G
      clear hkn hk hlt
      go_wp2_with fail
      clear hnn
      refine wp_region_over (by kernel_rfl) (by kernel_rfl) ?_
      repeat (go_big_quiet_step ((go_at_call 64; exact calls_over (specBankCount_any _ _))))
      refine wpQuiet_nil ?_
      intro W1 B1
      have HXG4 := hid (HXG3.out.old B1)
      have HC := hid (HC.out.old B1)
      clear hov hl c0 c1 c2 c3 B1 h1 HXG3
      obtain ⟨m, hm⟩ : ∃ m : Nat, rowsN G = (m : Int) := ⟨(rowsN G).toNat, by have := (rowsN_bd G).1; omega⟩
      have hm1 : m ≤ 1048576 := by have := (rowsN_bd G).2; omega
      have key : gOk G = false → (0 : Int) = (m : Int) := fun h => by rw [← hm, rowsN_no h]
      have HM := hid hm
      have HKEY := hid key
      clear key
      have hd : decide (rowsN G < 0) = false := by simp; omega
      clear hm
      obtain ⟨hl, c0, c1, c2, c3⟩ := HXG4.out
      go_wp2_with fail
      clear hl c0 c1 c2 c3 hd
      refine (specGeometryOk_any G _).mono ?_
      rintro e w5 ⟨rfl, B⟩
      have HC := hid (HC.out.old B)
      clear B HXG4
      obtain ⟨i0, hi, hz0, hz1, hz2⟩ := info_parts infoInt
      rcases Bool.eq_false_or_eq_true (gOk G) with hg | hg
      all_goals
        rw [hg]
        go_upto_region 10 with (at_make; refine wpList_make_full _ rfl _ _ 22 rfl w5.heap.size 3 i0 (.int .i64 0) 1 Try.underlying22 hi hz0 hz1 _ _ _ _ m rfl rfl (by first | exact HM.out | exact HKEY.out hg) (by first | exact HM.out | exact HKEY.out hg) (by rw [hz2]; omega) (by unfold maxLen; omega) (Nat.le_refl _) ?_; intro w6 hown hgr; have B6 := (Below.refl w5.heap.size w5).grown hgr (Nat.le_refl _) (fun k h => by cases h); have qq := ((B6.block g (lt_of_heap HC.out.blk)).trans HC.out.blk); have q1 := cell_of_row w6 g 1 _ 41 (0, 0) qq; have f1 := frozen_of_row w6 g 1 _ 41 qq; simp only [List.getElem?_toArray, List.getElem?_cons_zero, List.getElem?_cons_succ] at q1; have O6 := hid (OwnS.of_row (IRow.made hown) (Nat.le_refl _)); have B6 := hid B6; clear hown hgr qq)
        refine wp_world (fun w7 hw => ?_)
        have HC7 := hid (CpS.row1 HC.out B6.out O6.out hw.out)
        clear q1 f1 hw B6 O6 HC
        go_upto_region 11 with (at_make; refine wpList_make_full _ rfl _ _ 22 rfl w7.heap.size 3 i0 (.int .i64 0) 1 Try.underlying22 hi hz0 hz1 _ _ _ _ m rfl rfl (by first | exact HM.out | exact HKEY.out hg) (by first | exact HM.out | exact HKEY.out hg) (by rw [hz2]; omega) (by unfold maxLen; omega) (Nat.le_refl _) ?_; intro w8 hown hgr; have B8 := (Below.refl w7.heap.size w7).grown hgr (Nat.le_refl _) (fun k h => by cases h); have qq := ((B8.block g (lt_of_heap HC7.out.blk)).trans HC7.out.blk); have q2 := cell_of_row w8 g 2 _ 41 (0, 0) qq; have f2 := frozen_of_row w8 g 2 _ 41 qq; simp only [List.getElem?_toArray, List.getElem?_cons_zero, List.getElem?_cons_succ] at q2; have O8 := hid (OwnS.of_row (IRow.made hown) (Nat.le_refl _)); have B8 := hid B8; clear hown hgr qq)
        refine wp_world (fun w9 hw => ?_)
        have HC9 := hid (CpS.row2 HC7.out B8.out O8.out hw.out)
        clear q2 f2 hw B8 O8 HC7 hi hz0 hz1 hz2
        have hblk : w9.heap[g]? = some (.cells #[.slice a0 k c0, .slice (some ⟨w5.heap.size, 0, none⟩) m m, .slice (some ⟨w7.heap.size, 0, none⟩) m m] 41 (0, 0)) := HC9.out.blk
        have v0 := cell_of_row w9 g 0 _ 41 (0, 0) hblk
        have v1 := cell_of_row w9 g 1 _ 41 (0, 0) hblk
        have v2 := cell_of_row w9 g 2 _ 41 (0, 0) hblk
        simp only [List.getElem?_toArray, List.getElem?_cons_zero, List.getElem?_cons_succ] at v0 v1 v2
        have HXR3 := hid (HXR.out.old HC9.out.bel)
        have r0 := HXR3.out.c0
        have r1 := HXR3.out.c1
        have r2 := HXR3.out.c2
        have fr := HXR3.out.fr
        have K := stored_keeps w9 (w.heap.size + 1) (.slice a0 k c0) (.slice (some ⟨w5.heap.size, 0, none⟩) m m) (.slice (some ⟨w7.heap.size, 0, none⟩) m m)
        have HK := hid K
        clear K hblk
        go_wp2_with fail
        refine bodyPost_ret (v := .agg #[.slice a0 k c0, .slice (some ⟨w5.heap.size, 0, none⟩) m m, .slice (some ⟨w7.heap.size, 0, none⟩) m m]) (by simp [results, Try.results33, go_sem, r0, r1, r2]) rfl ⟨⟨⟨a0, k, c0⟩, ⟨some ⟨w5.heap.size, 0, none⟩, m, m⟩, ⟨some ⟨w7.heap.size, 0, none⟩, m, m⟩, es, List.replicate m 0, List.replicate m 0⟩, rfl, ?_, ?_, ?_⟩
        · exact newOwn HC9.out HK.out (by have := HXR.out.lt; omega) HB.out.size
        · exact newData HC9.out HKN.out HM.out
        · exact (below_step HB.out HC9.out.bel (Nat.le_refl _)).trans (HK.out.below (by have := HB.out.size; have := HC9.out.bel.size; omega) (fun q hq hS => by omega))
end Go.Proofs.Ytnfkkkjookfdiaa
