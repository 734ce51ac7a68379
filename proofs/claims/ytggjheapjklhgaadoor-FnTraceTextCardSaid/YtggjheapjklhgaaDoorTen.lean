/- TraceEnd: what the program's and the reference's return. -/
import Derived.Test.YtggjheapjklhgaaDoorRkA
import Derived.Test.YtggjheapjklhgaaDoorLwR
namespace Go.Proofs.YtggjheapjklhgaaDoor
open Go.RowKit
def endFrom (G : Geo) (D : RkD) : List Ev → Option RkD
  | [] => some D
  | e :: es => if allowed G D e.c = true then endFrom G (rankAfter G D e.c) es else none
def traceEnd (G : Geo) (es : List Ev) : RkD × Bool := match endFrom G (rankNew G) es with
  | some D => if gOk G = true then (D, true) else (⟨[], 0⟩, false)
  | none => (⟨[], 0⟩, false)
theorem endFrom_len (G : Geo) : ∀ (es : List Ev) (D D' : RkD), endFrom G D es = some D' → D'.banks.length = D.banks.length
  | [], D, D', h => by unfold endFrom at h; simp only [Option.some.injEq] at h; rw [h]
  | e :: es, D, D', h => by
    unfold endFrom at h
    split at h
    · rw [endFrom_len G es _ D' h, rankAfter_len]
    · cases h
theorem traceEnd_len (G : Geo) (es : List Ev) : (traceEnd G es).1.banks.length ≤ 8 := by
  unfold traceEnd
  split
  · rename_i D h
    split
    · have := endFrom_len G es _ D h
      have := rankNew_len G
      show D.banks.length ≤ 8
      omega
    · exact Nat.zero_le _
  · exact Nat.zero_le _
theorem endFrom_step {G : Geo} {D : RkD} {es : List Ev} {k : Nat} {e : Ev} (he : es[k]? = some e) (ha : allowed G D e.c = true) : endFrom G D (es.drop k) = endFrom G (rankAfter G D e.c) (es.drop (k + 1)) := by
  obtain ⟨hl, h⟩ := List.getElem?_eq_some_iff.1 he
  rw [List.drop_eq_getElem_cons hl, h]
  conv => lhs; unfold endFrom
  rw [if_pos ha]
theorem endFrom_stop {G : Geo} {D : RkD} {es : List Ev} {k : Nat} {e : Ev} (he : es[k]? = some e) (ha : allowed G D e.c = false) : endFrom G D (es.drop k) = none := by
  obtain ⟨hl, h⟩ := List.getElem?_eq_some_iff.1 he
  rw [List.drop_eq_getElem_cons hl, h]
  unfold endFrom
  rw [if_neg (by simp [ha])]
theorem traceEnd_none {G : Geo} {es : List Ev} (h : endFrom G (rankNew G) es = none) : traceEnd G es = (⟨[], 0⟩, false) := by unfold traceEnd; rw [h]
theorem traceEnd_some {G : Geo} {es : List Ev} {D : RkD} (h : endFrom G (rankNew G) es = some D) (hg : gOk G = true) : traceEnd G es = (D, true) := by unfold traceEnd; rw [h]; simp [hg]
theorem allowed_geo {G : Geo} {D : RkD} {C : Cmd} (h : gOk G = false) : allowed G D C = false := by unfold allowed; rw [rankOk_geo h]; rfl
theorem traceEnd_geo {G : Geo} {es : List Ev} (h : gOk G = false) : traceEnd G es = (⟨[], 0⟩, false) := by
  unfold traceEnd
  split
  · simp [h]
  · rfl
theorem endFrom_geo {G : Geo} {es : List Ev} {D : RkD} (hg : gOk G = false) (h : endFrom G (rankNew G) es = some D) : D = ⟨[], 0⟩ := by
  cases es with
  | nil => unfold endFrom at h; simp only [Option.some.injEq] at h; rw [← h]; simp [rankNew, bankN_no hg]
  | cons e es => unfold endFrom at h; rw [if_neg (by simp [allowed_geo hg])] at h; cases h
theorem none_rank (w : World) (B : Nat) : OwnR w B w.heap.size ⟨none, 0, 0, [], 0⟩ := OwnF.none_ _ _ _ (Nat.le_refl _)
set_option maxHeartbeats 4000000 in
set_option maxRecDepth 100000 in
theorem specTraceEnd_any (G : Geo) (E : EvsE) (w : World) (hE : EvsRd w E) (hn : E.n ≤ 1048576) :
    Calls Tryd.prog 54 #[.agg #[.int .i64 G.a, .int .i64 G.b, .int .i64 G.r, .int .i64 G.c], .slice E.a E.n E.c] w fun e w' => ∃ R' : RankE, e = .returned (.tuple #[.agg #[.slice R'.a R'.n R'.c, .int .i64 R'.p], .bool (traceEnd G E.d).2]) ∧ OwnR w' w.heap.size w'.heap.size R' ∧ R'.d = (traceEnd G E.d).1 ∧ Below w.heap.size w w' := by
  have HX := hid hE
  have HL := hid hE.len
  clear hE
  go_enter Tryd.func54, Tryd.ntmps54
  go_upto_region 1 with (fail)
  refine wp_world (fun W hw => ?_)
  have HG : Hid (BoxG W w.heap.size G) := by rw [hw.out]; exact hid ((BoxG.new_ w 32 G rfl).old (below_alloc _ _))
  have HT : Hid (Blk W (w.heap.size + 1) 75 [.slice none 0 0, .int .i64 0]) := by rw [hw.out]; exact hid (by simpa using Blk.new (w.alloc (.cells #[.int .i64 G.a, .int .i64 G.b, .int .i64 G.r, .int .i64 G.c] 32)) 75 [.slice none 0 0, .int .i64 0])
  have HBW : Hid (Below w.heap.size w W) := by rw [hw.out]; exact hid (below_alloc2 _ _ _)
  have HSW : Hid (W.heap.size = w.heap.size + 2) := by rw [hw.out]; exact hid (by simp)
  have HX := hid (EvsRd.old HX.out HBW.out)
  clear hw
  obtain ⟨_, g0, g1, g2, g3⟩ := HG.out
  go_wp2_with fail
  clear g0 g1 g2 g3
  refine (specRankNew_any G _).mono ?_
  rintro e w1 ⟨⟨na, nn, nc, ns, np⟩, rfl, O, D, B⟩
  have HO1 := hid O
  have HD1 := hid D
  have HB1 := hid B
  clear O D B
  go_upto_region 2 with (fail)
  refine wp_world (fun w2 hw => ?_)
  have HV0 : Hid (Blk w2 w1.heap.size 75 [.slice na nn nc, .int .i64 np]) := by rw [hw.out]; exact hid (Blk.new _ _ _)
  have B : Below w1.heap.size w1 w2 := by rw [hw.out]; exact below_alloc _ _
  clear hw
  have HO0 := hid ((HO1.out.old B).up B.size (Nat.le_refl _))
  have HB0 := hid (below_step HB1.out B (Nat.le_refl _))
  clear B
  obtain ⟨g6, hg6⟩ : ∃ g, w1.heap.size = g := ⟨_, rfl⟩
  have HG6 : Hid (W.heap.size ≤ g6) := hid (by rw [← hg6]; exact HB1.out.size)
  rw [hg6] at HV0 ⊢
  clear hg6 HO1 HB1
  go_upto_region 3 with (fail)
  go_loopw [7] (fun i wr => ∃ (k : Nat) (R : RankE), k ≤ E.n ∧ i = .int .i64 k ∧ Hid (Blk wr g6 75 [.slice R.a R.n R.c, .int .i64 R.p]) ∧ Hid (OwnR wr W.heap.size wr.heap.size R) ∧ Hid (endFrom G R.d (E.es.drop k) = endFrom G (rankNew G) E.es) ∧ Hid (R.es.length ≤ 8) ∧ Hid (Below W.heap.size W wr)) (fun i _ => E.n - (intOf i).toNat)
  case atStart => exact ⟨0, ⟨na, nn, nc, ns, np⟩, Nat.zero_le _, rfl, HV0, HO0, hid (by rw [HD1.out]; rfl), hid (by have h := rankNew_len G; rw [← HD1.out] at h; exact h), HB0⟩
  case round =>
    clear HV0 HO0 HB0
    obtain ⟨k, ⟨ra, rn, rc, rs, rp⟩, hk, rfl, HV, HO, HF, HR8, HB⟩ := hrel
    dsimp only at HV HO HF HR8
    by_cases hlt : k < E.n
    · obtain ⟨e, b1, o1, he, ha, hb1, hc0, hc1, hc2, hc3, hc4⟩ := (EvsR.old HX.out HB.out).at_ hlt
      have HE := hid he
      clear he
      rw [ha]
      clear ha
      have HBL := hid hb1
      have HEV := hid (And.intro hc1 (And.intro hc2 (And.intro hc3 hc4)))
      have HRN : Hid (rn ≤ 1048576) := hid (by have h1 := HO.out.reads.len; have h2 := HR8.out; dsimp only at h1; omega)
      have hki : (0 : Int) ≤ (k : Int) := by omega
      have hki2 : (k : Int) < (E.n : Int) := by omega
      clear hc0 hc1 hc2 hc3 hc4 hb1
      go_upto_region 5 with (fail)
      refine grow3_of 12 10 (.bool (allowed G ⟨rs, rp⟩ e.c)) (fr := ?fr1)
        (fun i v w' => match i with
            | 0 => v = .agg #[.int .i64 G.a, .int .i64 G.b, .int .i64 G.r, .int .i64 G.c]
            | 1 => v = .agg #[.slice ra rn rc, .int .i64 rp]
            | 2 => v = .slice (some ⟨b1, o1, none⟩) E.n E.c
            | 3 => v = .int .i64 k
            | 4 => v = .pointer (some ⟨b1, o1 + k * 5, none⟩)
            | 5 => v = .pointer (some ⟨b1, o1 + k * 5 + 1, none⟩)
            | 6 => v = .agg #[.int .i64 e.c.k, .int .i64 e.c.b, .int .i64 e.c.r, .int .i64 e.c.c]
            | 7 => ∃ Lx : RankE, v = .tuple #[.agg #[.slice Lx.a Lx.n Lx.c, .int .i64 Lx.p], .bool (allowed G ⟨rs, rp⟩ e.c)] ∧ OwnR w' wr.heap.size w'.heap.size Lx ∧ Lx.d = rankAfter G ⟨rs, rp⟩ e.c
            | 8 => ∃ Lx : RankE, v = .tuple #[.agg #[.slice Lx.a Lx.n Lx.c, .int .i64 Lx.p], .bool (allowed G ⟨rs, rp⟩ e.c)] ∧ OwnR w' wr.heap.size w'.heap.size Lx ∧ Lx.d = rankAfter G ⟨rs, rp⟩ e.c
            | 9 => ∃ Lx : RankE, v = .agg #[.slice Lx.a Lx.n Lx.c, .int .i64 Lx.p] ∧ OwnR w' wr.heap.size w'.heap.size Lx ∧ Lx.d = rankAfter G ⟨rs, rp⟩ e.c
            | 10 => v = .bool (allowed G ⟨rs, rp⟩ e.c)
            | _ => ∃ g : Nat, v = .pointer (some ⟨g, 0, none⟩) ∧ wr.heap.size ≤ g ∧ Blk w' g 75 [.slice none 0 0, .int .i64 0])
        (fun vs w' => (∃ Tx : RankE, vs 8 = .tuple #[.agg #[.slice Tx.a Tx.n Tx.c, .int .i64 Tx.p], .bool (allowed G ⟨rs, rp⟩ e.c)]) ∧ ∃ (Lx : RankE) (g : Nat), vs 11 = .pointer (some ⟨g, 0, none⟩) ∧ wr.heap.size ≤ g ∧ Blk w' g 75 [.slice Lx.a Lx.n Lx.c, .int .i64 Lx.p] ∧ OwnR w' wr.heap.size w'.heap.size Lx ∧ Lx.d = rankAfter G ⟨rs, rp⟩ e.c ∧ Below wr.heap.size wr w') (by kernel_rfl) (by kernel_rfl) rfl (by decide) ?hlast1 ?hlbst1 ?hfr1 ⟨fun i => [u19, u20, u21, u22, u23, u24, u25, u26, u18, u27, u28, u8].getD i undef, ?h01⟩ ?hF1 ?hX1 ?hstep1 ?hstore1 ?hlate1 ?hend1
      case hfr1 => intro vs; simp only [frOf, List.take_succ_cons, List.take_zero]; go_simp; exact rfl
      case h01 => rfl
      case hX1 => exact fun v w h => h
      case hlast1 =>
        intro o ho i hi hne
        simp only [List.getElem?_cons_succ, List.getElem?_cons_zero, Option.some.injEq] at ho
        subst ho
        match i, hi, hne with
        | 0, _, _ => show (_ : Bool) = true; kernel_rfl
        | 1, _, _ => show (_ : Bool) = true; kernel_rfl
        | 2, _, _ => show (_ : Bool) = true; kernel_rfl
        | 3, _, _ => show (_ : Bool) = true; kernel_rfl
        | 4, _, _ => show (_ : Bool) = true; kernel_rfl
        | 5, _, _ => show (_ : Bool) = true; kernel_rfl
        | 6, _, _ => show (_ : Bool) = true; kernel_rfl
        | 7, _, _ => show (_ : Bool) = true; kernel_rfl
        | 8, _, _ => show (_ : Bool) = true; kernel_rfl
        | 9, _, _ => show (_ : Bool) = true; kernel_rfl
        | 10, _, hne => exact absurd rfl hne
        | 11, _, _ => show (_ : Bool) = true; kernel_rfl
      case hlbst1 =>
        intro o ho i hi
        simp only [List.getElem?_cons_succ, List.getElem?_cons_zero, Option.some.injEq] at ho
        subst ho
        match i, hi with
        | 0, _ => show (_ : Bool) = true; kernel_rfl
        | 1, _ => show (_ : Bool) = true; kernel_rfl
        | 2, _ => show (_ : Bool) = true; kernel_rfl
        | 3, _ => show (_ : Bool) = true; kernel_rfl
        | 4, _ => show (_ : Bool) = true; kernel_rfl
        | 5, _ => show (_ : Bool) = true; kernel_rfl
        | 6, _ => show (_ : Bool) = true; kernel_rfl
        | 7, _ => show (_ : Bool) = true; kernel_rfl
        | 8, _ => show (_ : Bool) = true; kernel_rfl
        | 9, _ => show (_ : Bool) = true; kernel_rfl
        | 10, _ => show (_ : Bool) = true; kernel_rfl
        | 11, _ => show (_ : Bool) = true; kernel_rfl
        | 12, _ => show (_ : Bool) = true; kernel_rfl
      case hF1 =>
        intro i v w' w'' h hb
        match i, h with
        | 0, h => exact h
        | 1, h => exact h
        | 2, h => exact h
        | 3, h => exact h
        | 4, h => exact h
        | 5, h => exact h
        | 6, h => exact h
        | 7, h => obtain ⟨Lx, e, o, d⟩ := h; exact ⟨Lx, e, OwnR.up (o.old hb) hb.size (Nat.le_refl _), d⟩
        | 8, h => obtain ⟨Lx, e, o, d⟩ := h; exact ⟨Lx, e, OwnR.up (o.old hb) hb.size (Nat.le_refl _), d⟩
        | 9, h => obtain ⟨Lx, e, o, d⟩ := h; exact ⟨Lx, e, OwnR.up (o.old hb) hb.size (Nat.le_refl _), d⟩
        | 10, h => exact h
        | n + 11, h => obtain ⟨g, e, l, o⟩ := h; exact ⟨g, e, l, o.old hb⟩
      case hstep1 =>
        intro vs w' i o hin ho hb hd
        match i, ho, hin with
        | 0, ho, _ =>
          simp only [List.getElem?_cons_zero, Option.some.injEq] at ho
          subst ho
          refine ⟨wanted_none rfl, ?_⟩
          obtain ⟨_, g0, g1, g2, g3⟩ := HG.out.old (HB.out.trans (hb.mono HB.out.size))
          generalize hK : (fun (a' : Act) (w'' : World) => ∃ v : Value, _ ∧ _ ∧ _) = K
          go_simp
          rw [← hK]
          exact ⟨_, rfl, rfl, Below.refl _ _⟩
        | 1, ho, _ =>
          simp only [List.getElem?_cons_succ, List.getElem?_cons_zero, Option.some.injEq] at ho
          subst ho
          refine ⟨wanted_none rfl, ?_⟩
          have v0 := (HV.out.old hb).cell (j := 0) rfl
          have v1 := (HV.out.old hb).cell (j := 1) rfl
          generalize hK : (fun (a' : Act) (w'' : World) => ∃ v : Value, _ ∧ _ ∧ _) = K
          go_simp
          rw [← hK]
          exact ⟨_, rfl, rfl, Below.refl _ _⟩
        | 2, ho, _ =>
          simp only [List.getElem?_cons_succ, List.getElem?_cons_zero, Option.some.injEq] at ho
          subst ho
          refine ⟨wanted_none rfl, ?_⟩
          generalize hK : (fun (a' : Act) (w'' : World) => ∃ v : Value, _ ∧ _ ∧ _) = K
          go_simp
          rw [← hK]
          exact ⟨_, rfl, rfl, Below.refl _ _⟩
        | 3, ho, _ =>
          simp only [List.getElem?_cons_succ, List.getElem?_cons_zero, Option.some.injEq] at ho
          subst ho
          refine ⟨wanted_none rfl, ?_⟩
          generalize hK : (fun (a' : Act) (w'' : World) => ∃ v : Value, _ ∧ _ ∧ _) = K
          go_simp
          rw [← hK]
          exact ⟨_, rfl, rfl, Below.refl _ _⟩
        | 4, ho, _ =>
          simp only [List.getElem?_cons_succ, List.getElem?_cons_zero, Option.some.injEq] at ho
          subst ho
          refine ⟨wanted_none rfl, ?_⟩
          have x2 : vs 2 = .slice (some ⟨b1, o1, none⟩) E.n E.c := hd 2 (by kernel_rfl)
          have x3 : vs 3 = .int .i64 k := hd 3 (by kernel_rfl)
          generalize hK : (fun (a' : Act) (w'' : World) => ∃ v : Value, _ ∧ _ ∧ _) = K
          generalize hu2 : vs 2 = u2 at x2 ⊢
          subst x2
          generalize hu3 : vs 3 = u3 at x3 ⊢
          subst x3
          go_simp
          rw [← hK]
          exact ⟨_, by simp [upd, hu2, hu3], rfl, Below.refl _ _⟩
        | 5, ho, _ =>
          simp only [List.getElem?_cons_succ, List.getElem?_cons_zero, Option.some.injEq] at ho
          subst ho
          refine ⟨wanted_none rfl, ?_⟩
          have x4 : vs 4 = .pointer (some ⟨b1, o1 + k * 5, none⟩) := hd 4 (by kernel_rfl)
          generalize hK : (fun (a' : Act) (w'' : World) => ∃ v : Value, _ ∧ _ ∧ _) = K
          generalize hu4 : vs 4 = u4 at x4 ⊢
          subst x4
          go_simp
          rw [← hK]
          exact ⟨_, by simp [upd, hu4], rfl, Below.refl _ _⟩
        | 6, ho, _ =>
          simp only [List.getElem?_cons_succ, List.getElem?_cons_zero, Option.some.injEq] at ho
          subst ho
          refine ⟨wanted_none rfl, ?_⟩
          have x5 : vs 5 = .pointer (some ⟨b1, o1 + k * 5 + 1, none⟩) := hd 5 (by kernel_rfl)
          obtain ⟨y1, y2, y3, y4⟩ := HEV.out
          have c1 := (hb.cell (p := ⟨b1, o1 + k * 5 + 1, none⟩) HBL.out).trans y1
          have c2 := (hb.cell (p := ⟨b1, o1 + k * 5 + 2, none⟩) HBL.out).trans y2
          have c3 := (hb.cell (p := ⟨b1, o1 + k * 5 + 3, none⟩) HBL.out).trans y3
          have c4 := (hb.cell (p := ⟨b1, o1 + k * 5 + 4, none⟩) HBL.out).trans y4
          generalize hK : (fun (a' : Act) (w'' : World) => ∃ v : Value, _ ∧ _ ∧ _) = K
          generalize hu5 : vs 5 = u5 at x5 ⊢
          subst x5
          go_simp
          rw [← hK]
          exact ⟨_, by simp [upd, hu5], rfl, Below.refl _ _⟩
        | 7, ho, _ =>
          simp only [List.getElem?_cons_succ, List.getElem?_cons_zero, Option.some.injEq] at ho
          subst ho
          refine ⟨wanted_none rfl, ?_⟩
          have x0 : Hid (vs 0 = .agg #[.int .i64 G.a, .int .i64 G.b, .int .i64 G.r, .int .i64 G.c]) := hd 0 (by kernel_rfl)
          have x1 : Hid (vs 1 = .agg #[.slice ra rn rc, .int .i64 rp]) := hd 1 (by kernel_rfl)
          have x6 : Hid (vs 6 = .agg #[.int .i64 e.c.k, .int .i64 e.c.b, .int .i64 e.c.r, .int .i64 e.c.c]) := hd 6 (by kernel_rfl)
          generalize hK : (fun (a' : Act) (w'' : World) => ∃ v : Value, _ ∧ _ ∧ _) = K
          go_simp
          refine (calls_args (by rw [x0.out, x1.out, x6.out]) (specRankAfter_any G ⟨ra, rn, rc, rs, rp⟩ e.c _ (HO.out.reads.old hb) HRN.out)).mono ?_
          rintro e w2 ⟨Lx, rfl, O, D1, B⟩
          rw [← hK]
          exact ⟨_, rfl, ⟨Lx, rfl, OwnR.mono O hb.size, D1⟩, B⟩
        | 8, ho, _ =>
          simp only [List.getElem?_cons_succ, List.getElem?_cons_zero, Option.some.injEq] at ho
          subst ho
          refine ⟨wanted_none rfl, ?_⟩
          obtain ⟨Lx, ev, OO, dd⟩ := hd 7 (by kernel_rfl)
          generalize hK : (fun (a' : Act) (w'' : World) => ∃ v : Value, _ ∧ _ ∧ _) = K
          go_simp
          rw [← hK]
          exact ⟨_, by simp [upd, ev], ⟨Lx, rfl, OO, dd⟩, Below.refl _ _⟩
        | 9, ho, _ =>
          simp only [List.getElem?_cons_succ, List.getElem?_cons_zero, Option.some.injEq] at ho
          subst ho
          refine ⟨wanted_none rfl, ?_⟩
          obtain ⟨Lx, ev, OO, dd⟩ := hd 8 (by kernel_rfl)
          generalize hK : (fun (a' : Act) (w'' : World) => ∃ v : Value, _ ∧ _ ∧ _) = K
          go_simp
          rw [← hK]
          exact ⟨_, by simp [upd, ev], ⟨Lx, rfl, OO, dd⟩, Below.refl _ _⟩
        | 10, ho, _ =>
          simp only [List.getElem?_cons_succ, List.getElem?_cons_zero, Option.some.injEq] at ho
          subst ho
          refine ⟨wanted_none rfl, ?_⟩
          obtain ⟨Lx, ev, OO, dd⟩ := hd 8 (by kernel_rfl)
          generalize hK : (fun (a' : Act) (w'' : World) => ∃ v : Value, _ ∧ _ ∧ _) = K
          go_simp
          rw [← hK]
          exact ⟨_, by simp [upd, ev], rfl, Below.refl _ _⟩
        | 11, ho, _ =>
          simp only [List.getElem?_cons_succ, List.getElem?_cons_zero, Option.some.injEq] at ho
          subst ho
          refine ⟨wanted_none rfl, ?_⟩
          generalize hK : (fun (a' : Act) (w'' : World) => ∃ v : Value, _ ∧ _ ∧ _) = K
          go_simp
          rw [← hK]
          exact ⟨_, rfl, ⟨_, rfl, hb.size, Blk.new _ _ _⟩, below_alloc _ _⟩
        | n + 12, _, hin => exact absurd hin (by omega)
      case hstore1 =>
        intro vs w' o ho hb hf
        simp only [List.getElem?_cons_succ, List.getElem?_cons_zero, Option.some.injEq] at ho
        subst ho
        refine ⟨wanted_none rfl, ?_⟩
        obtain ⟨Tx, et, _, _⟩ := hf 8 (by decide) (by decide)
        obtain ⟨Lx, er, O, D0⟩ := hf 9 (by decide) (by decide)
        obtain ⟨g, ep, hg, N⟩ := hf 11 (by decide) (by decide)
        have HSS := hid (rank_stored N O hg)
        have HET := hid et
        have HHB := hid hb
        have HHG := hid hg
        have HDD := hid D0
        have c0 := N.cell (j := 0) rfl
        have c1 := N.cell (j := 1) rfl
        have f0 := N.frozen 0
        have f1 := N.frozen 1
        clear et O N hb hg hf D0
        generalize hK : (fun (a' : Act) (w'' : World) => _ ∧ _ ∧ _) = K
        go_simp
        clear c0 c1 f0 f1
        rw [← hK]
        obtain ⟨s1, s2, s3, s4⟩ := HSS.out
        exact ⟨by simp [er, ep], ⟨Tx, HET.out⟩, Lx, g, ep, HHG.out, s1, s2, HDD.out, HHB.out.trans s3⟩
      case hlate1 =>
        intro vs w' o ho hg
        simp only [List.getElem?_cons_succ, List.getElem?_cons_zero, Option.some.injEq] at ho
        subst ho
        refine ⟨wanted_none rfl, ?_⟩
        obtain ⟨⟨Tx, et⟩, hg2⟩ := hg
        have HG2 := hid hg2
        clear hg2
        generalize hK : (fun (a' : Act) (w'' : World) => _ ∧ _ ∧ _) = K
        go_simp
        rw [← hK]
        exact ⟨by simp [upd, et], ⟨Tx, by simpa [upd] using et⟩, by simpa [upd] using HG2.out⟩
      case hend1 =>
        intro vs w5 o ho hg hx
        simp only [List.getElem?_cons_succ, List.getElem?_cons_zero, Option.some.injEq] at ho
        subst ho
        refine ⟨wanted_none rfl, ?_⟩
        obtain ⟨_, ⟨xa, xn, xc, xs, xp⟩, g9, ep, hg1, N, O, D0, hbb⟩ := hg
        generalize vs 10 = ub at hx ⊢
        subst hx
        generalize vs 11 = up at ep ⊢
        subst ep
        have HX9 := hid N
        have HO2 := hid O
        have HD2 := hid D0
        have HHB := hid hbb
        clear N O D0 hbb hg1
        go_simp
        have HV := hid (HV.out.old HHB.out)
        have HO := hid (OwnF.mono HO2.out HB.out.size)
        have HB := hid (below_step HB.out HHB.out (Nat.le_refl _))
        clear HHB HO2
        cases hal : allowed G ⟨rs, rp⟩ e.c with
        | false =>
          have HF := hid (traceEnd_none (HF.out.symm.trans (endFrom_stop HE.out hal)))
          have HT := hid (HT.out.old HB.out)
          have HBW := hid (HBW.out.trans (HB.out.mono HBW.out.size))
          have hw5 := HT.out.lt
          clear hal
          have d0 := HT.out.cell (j := 0) rfl
          have d1 := HT.out.cell (j := 1) rfl
          have f0 := HT.out.frozen 0
          have f1 := HT.out.frozen 1
          have HKK := hid (stored2 w5 (w.heap.size + 1) (.slice none 0 0) (.int .i64 0))
          go_wp2_with fail
          refine bodyPost_ret (v := .tuple #[.agg #[.slice none 0 0, .int .i64 0], .bool false]) (by simp [results, Tryd.results54, go_sem, d0, d1]) rfl ⟨⟨none, 0, 0, [], 0⟩, by rw [show E.d = E.es from rfl, HF.out], none_rank _ _, by rw [show E.d = E.es from rfl, HF.out]; rfl, ?_⟩
          exact HBW.out.trans (HKK.out.below HBW.out.size (fun k hk hS => by omega))
        | true =>
          have HF := hid ((endFrom_step HE.out hal).symm.trans HF.out)
          have HDD := hid (show (⟨xs, xp⟩ : RkD) = rankAfter G ⟨rs, rp⟩ e.c from HD2.out)
          have HLX := hid (show xs.length = rs.length by have h := congrArg (fun d => d.banks.length) HDD.out; rw [rankAfter_len] at h; exact h)
          clear hal HD2
          have x0 := HX9.out.cell (j := 0) rfl
          have x1 := HX9.out.cell (j := 1) rfl
          have v0 := HV.out.cell (j := 0) rfl
          have v1 := HV.out.cell (j := 1) rfl
          have f0 := HV.out.frozen 0
          have f1 := HV.out.frozen 1
          have HST := hid (rank_stored (R := ⟨xa, xn, xc, xs, xp⟩) HV.out HO.out HG6.out)
          dsimp only at HST
          go_upto_region 4 with (fail)
          refine wp_world (fun w6 hw => ?_)
          have HST2 : Hid (Blk w6 g6 75 [.slice xa xn xc, .int .i64 xp] ∧ OwnR w6 W.heap.size w6.heap.size ⟨xa, xn, xc, xs, xp⟩ ∧ Below W.heap.size w5 w6) := by rw [hw.out]; exact hid ⟨HST.out.1, HST.out.2.1, HST.out.2.2.1⟩
          clear hw HST x0 x1 v0 v1 f0 f1
          go_wp2_with fail
          go_roundw
          case rel => exact ⟨k + 1, ⟨xa, xn, xc, xs, xp⟩, by omega, by go_num, hid HST2.out.1, hid HST2.out.2.1, hid (by rw [show (RankE.d ⟨xa, xn, xc, xs, xp⟩) = rankAfter G ⟨rs, rp⟩ e.c from HDD.out]; exact HF.out), hid (by show xs.length ≤ 8; rw [HLX.out]; exact HR8.out), hid (HB.out.trans HST2.out.2.2)⟩
          case measure => simp [intOf]; omega
    · -- done
      have hkn : k = E.n := by omega
      have hF : endFrom G (rankNew G) E.es = some ⟨rs, rp⟩ := by
        rw [← HF.out, List.drop_of_length_le (by have := HL.out; omega)]
        rfl
      have HFF := hid hF
      clear hkn hF HF
      go_upto_region 9 with (fail)
      refine growR_of 3 (fr := ?fr2)
        (fun i v w' => match i with
            | 0 => v = .agg #[.slice ra rn rc, .int .i64 rp]
            | 1 => v = .agg #[.int .i64 G.a, .int .i64 G.b, .int .i64 G.r, .int .i64 G.c]
            | _ => v = .bool (gOk G)
          ) (by kernel_rfl) (by kernel_rfl) (by decide) (by kernel_rfl) ?hfr2 ⟨fun _ => undef, ?h02⟩ ?hF2 ?hstep2 ?hend2
      case hfr2 => intro vs; simp only [frOf, List.take_succ_cons, List.take_zero]; go_simp; exact rfl
      case h02 => rfl
      case hF2 =>
        intro i v w' w'' h hb
        match i, h with
        | 0, h => exact h
        | 1, h => exact h
        | n + 2, h => exact h
      case hstep2 =>
        intro vs w' i o hin ho hb hd
        match i, ho, hin with
        | 0, ho, _ =>
          simp only [List.getElem?_cons_zero, Option.some.injEq] at ho
          subst ho
          refine ⟨wanted_none rfl, ?_⟩
          have v0 := (HV.out.old hb).cell (j := 0) rfl
          have v1 := (HV.out.old hb).cell (j := 1) rfl
          generalize hK : (fun (a' : Act) (w'' : World) => ∃ v : Value, _ ∧ _ ∧ _) = K
          go_simp
          rw [← hK]
          exact ⟨_, rfl, rfl, Below.refl _ _⟩
        | 1, ho, _ =>
          simp only [List.getElem?_cons_succ, List.getElem?_cons_zero, Option.some.injEq] at ho
          subst ho
          refine ⟨wanted_none rfl, ?_⟩
          obtain ⟨_, g0, g1, g2, g3⟩ := HG.out.old (HB.out.trans (hb.mono HB.out.size))
          generalize hK : (fun (a' : Act) (w'' : World) => ∃ v : Value, _ ∧ _ ∧ _) = K
          go_simp
          rw [← hK]
          exact ⟨_, rfl, rfl, Below.refl _ _⟩
        | 2, ho, _ =>
          simp only [List.getElem?_cons_succ, List.getElem?_cons_zero, Option.some.injEq] at ho
          subst ho
          refine ⟨wanted_none rfl, ?_⟩
          have x1 : Hid (vs 1 = .agg #[.int .i64 G.a, .int .i64 G.b, .int .i64 G.r, .int .i64 G.c]) := hd 1 (by kernel_rfl)
          generalize hK : (fun (a' : Act) (w'' : World) => ∃ v : Value, _ ∧ _ ∧ _) = K
          go_simp
          refine (calls_args (by rw [x1.out]) (specGeometryOk_any G _)).mono ?_
          rintro e w2 ⟨rfl, B⟩
          rw [← hK]
          exact ⟨_, rfl, rfl, B⟩
        | n + 3, _, hin => exact absurd hin (by omega)
      case hend2 =>
        intro vs w5 hb hf
        have e0 : vs 0 = .agg #[.slice ra rn rc, .int .i64 rp] := hf 0 (by decide)
        have e2 : vs 2 = .bool (gOk G) := hf 2 (by decide)
        have HHB := hid hb
        clear hb hf
        generalize vs 0 = u0 at e0 ⊢
        subst e0
        generalize vs 2 = u2 at e2 ⊢
        subst e2
        have HO := hid ((HO.out.old HHB.out).up HHB.out.size (Nat.le_refl _))
        have HB := hid (below_step HB.out HHB.out (Nat.le_refl _))
        have HT := hid (HT.out.old HB.out)
        have HBB := hid (HBW.out.trans (HB.out.mono HBW.out.size))
        have d0 := HT.out.cell (j := 0) rfl
        have d1 := HT.out.cell (j := 1) rfl
        have f0 := HT.out.frozen 0
        have f1 := HT.out.frozen 1
        have HKK := hid (stored2 w5 (w.heap.size + 1) (.slice ra rn rc) (.int .i64 rp))
        have HTE : Hid (traceEnd G E.es = (⟨rs, rp⟩, gOk G)) := by
          cases hg : gOk G with
          | true => exact hid (traceEnd_some HFF.out hg)
          | false => exact hid (by rw [traceEnd_geo hg, endFrom_geo hg HFF.out])
        simp only [List.drop_succ_cons, List.drop_zero]
        refine wpTail_plain rfl fun K hK => ?_
        go_simp
        refine hK _ _ (wpTail_plain rfl fun K2 hK2 => ?_)
        go_simp
        refine hK2 _ _ (wpTail_nil ?_)
        go_wp2_with fail
        refine bodyPost_ret (v := .tuple #[.agg #[.slice ra rn rc, .int .i64 rp], .bool (gOk G)]) (by simp [results, Tryd.results54, go_sem, d0, d1]) rfl ⟨⟨ra, rn, rc, rs, rp⟩, by rw [show E.d = E.es from rfl, HTE.out], ?_, by rw [show E.d = E.es from rfl, HTE.out]; rfl, ?_⟩
        · exact OwnF.up (OwnF.mono (OwnF.keeps HO.out HKK.out (fun b h1 h2 h3 => by have := HSW.out; omega)) (by have := HSW.out; omega)) HKK.out.size (Nat.le_refl _)
        · exact HBB.out.trans (HKK.out.below HBB.out.size (fun k hk hS => by omega))
end Go.Proofs.YtggjheapjklhgaaDoor
