/- ReadyOf: what the program's and the reference's return. -/
import Derived.Test.YtggjheapjklhgaaRyB
import Derived.Test.YtggjheapjklhgaaEvtF
namespace Go.Proofs.Ytggjheapjklhgaa
open Go.RowKit
def readyOf (G : Geo) (es : List Ev) : RdyD := es.foldl (fun D e => readyAfter G D e) (readyNew G)
theorem readyOf_step {G : Geo} {es : List Ev} {k : Nat} {e : Ev} (he : es[k]? = some e) : readyOf G (es.take (k + 1)) = readyAfter G (readyOf G (es.take k)) e := by
  unfold readyOf
  rw [take_snoc he, List.foldl_append]; rfl
theorem foldY_len (G : Geo) : ∀ (es : List Ev) (D : RdyD), (es.foldl (fun D e => readyAfter G D e) D).last.length = D.last.length ∧ (es.foldl (fun D e => readyAfter G D e) D).acts.length ≤ max D.acts.length 4
  | [], D => ⟨rfl, by simp; omega⟩
  | e :: es, D => by
    have h := foldY_len G es (readyAfter G D e)
    have h2 := readyAfter_len G D e
    refine ⟨h.1.trans h2.1, ?_⟩
    have h3 := h.2
    have h4 := h2.2
    show (es.foldl (fun D e => readyAfter G D e) (readyAfter G D e)).acts.length ≤ _
    omega
theorem readyNew_lens (G : Geo) : (readyNew G).last.length ≤ 81 ∧ (readyNew G).acts.length = 0 := by
  have := (readyLen_bd G).1
  unfold readyNew
  split
  · simp; omega
  · simp
theorem readyOf_small {G : Geo} {es : List Ev} {Z : RdyE} (h : readyOf G es = Z.d) : Z.small := by
  have h1 := foldY_len G es (readyNew G)
  have h2 := readyNew_lens G
  have h3 : (readyOf G es).last.length = Z.last.length := congrArg (fun d => d.last.length) h
  have h4 : (readyOf G es).acts.length = Z.acts.length := congrArg (fun d => d.acts.length) h
  unfold readyOf at h3 h4
  exact ⟨by omega, by omega⟩
set_option maxHeartbeats 4000000 in
set_option maxRecDepth 100000 in
theorem implReadyOf_any (G : Geo) (E : EvsE) (w : World) (hE : EvsRd w E) (hn : E.n ≤ 1048576) :
    Calls Try.prog 19 #[.agg #[.int .i64 G.a, .int .i64 G.b, .int .i64 G.r, .int .i64 G.c], .slice E.a E.n E.c] w fun e w' => ∃ Y' : RdyE, e = .returned (.agg #[.slice Y'.s0.a Y'.s0.n Y'.s0.c, .slice Y'.s1.a Y'.s1.n Y'.s1.c]) ∧ OwnY w' w.heap.size w'.heap.size Y' ∧ Y'.d = readyOf G E.d ∧ Below w.heap.size w w' := by
  have HX := hid hE
  have HL := hid hE.len
  clear hE
  go_enter Try.func19, Try.ntmps19
  go_upto_region 1 with (fail)
  refine wp_world (fun W hw => ?_)
  have HG : Hid (BoxG W w.heap.size G) := by rw [hw.out]; exact hid ((BoxG.new_ w 25 G rfl).old (below_alloc _ _))
  have HT : Hid (Blk W (w.heap.size + 1) 37 [.slice none 0 0, .slice none 0 0]) := by rw [hw.out]; exact hid (by simpa using Blk.new (w.alloc (.cells #[.int .i64 G.a, .int .i64 G.b, .int .i64 G.r, .int .i64 G.c] 25)) 37 [.slice none 0 0, .slice none 0 0])
  have HBW : Hid (Below w.heap.size w W) := by rw [hw.out]; exact hid (below_alloc2 _ _ _)
  have HSW : Hid (W.heap.size = w.heap.size + 2) := by rw [hw.out]; exact hid (by simp)
  have HX := hid (EvsRd.old HX.out HBW.out)
  clear hw
  obtain ⟨_, g0, g1, g2, g3⟩ := HG.out
  go_wp2_with fail
  clear g0 g1 g2 g3
  refine (implReadyNew_any G _).mono ?_
  rintro e w1 ⟨⟨⟨a0, n0, c0⟩, ⟨a1, n1, c1⟩, la, ac⟩, rfl, O, D, B⟩
  have HO1 := hid O
  have HD1 := hid D
  have HB1 := hid B
  clear O D B
  go_upto_region 2 with (fail)
  refine wp_world (fun w2 hw => ?_)
  have HV0 : Hid (Blk w2 w1.heap.size 37 [.slice a0 n0 c0, .slice a1 n1 c1]) := by rw [hw.out]; exact hid (Blk.new _ _ _)
  have B : Below w1.heap.size w1 w2 := by rw [hw.out]; exact below_alloc _ _
  clear hw
  have HO0 := hid ((HO1.out.old B).up B.size (Nat.le_refl _))
  have HB0 := hid (below_step HB1.out B (Nat.le_refl _))
  obtain ⟨g5, hg5⟩ : ∃ g, w1.heap.size = g := ⟨_, rfl⟩
  have HG5 : Hid (W.heap.size ≤ g5) := hid (by rw [← hg5]; exact HB1.out.size)
  rw [hg5] at HV0 ⊢
  clear hg5 HO1 HB1 B
  go_upto_region 3 with (fail)
  go_loopw [12] (fun i wr => ∃ (k : Nat) (Y : RdyE), k ≤ E.n ∧ i = .int .i64 k ∧ Hid (Blk wr g5 37 [.slice Y.s0.a Y.s0.n Y.s0.c, .slice Y.s1.a Y.s1.n Y.s1.c]) ∧ Hid (OwnY wr W.heap.size wr.heap.size Y) ∧ Hid (readyOf G (E.es.take k) = Y.d) ∧ Hid (Below W.heap.size W wr)) (fun i _ => E.n - (intOf i).toNat)
  case atStart => exact ⟨0, ⟨⟨a0, n0, c0⟩, ⟨a1, n1, c1⟩, la, ac⟩, Nat.zero_le _, rfl, HV0, HO0, hid (by rw [HD1.out]; rfl), HB0⟩
  case round =>
    clear HV0 HO0 HB0
    obtain ⟨k, ⟨⟨b0, m0, x0⟩, ⟨b1, m1, x1⟩, lb, ab⟩, hk, rfl, HV, HO, HF, HB⟩ := hrel
    dsimp only at HV
    by_cases hlt : k < E.n
    rotate_left
    · have hkn : k = E.n := by omega
      have hv : readyOf G E.es = ⟨lb, ab⟩ := by
        have hf := HF.out
        rw [List.take_of_length_le (by rw [← HL.out]; omega)] at hf
        exact hf
      have HFF := hid hv
      clear hkn hv HF
      have HT := hid (HT.out.old HB.out)
      have HBB := hid (HBW.out.trans (HB.out.mono HBW.out.size))
      have v0 := HV.out.cell (j := 0) rfl
      have v1 := HV.out.cell (j := 1) rfl
      have d0 := HT.out.cell (j := 0) rfl
      have d1 := HT.out.cell (j := 1) rfl
      have f0 := HT.out.frozen 0
      have f1 := HT.out.frozen 1
      have HKK := hid (stored2 wr (w.heap.size + 1) (.slice b0 m0 x0) (.slice b1 m1 x1))
      go_wp2_with fail
      refine bodyPost_ret (v := .agg #[.slice b0 m0 x0, .slice b1 m1 x1]) (by simp [results, Try.results19, go_sem, d0, d1]) rfl ⟨⟨⟨b0, m0, x0⟩, ⟨b1, m1, x1⟩, lb, ab⟩, rfl, ?_, HFF.out.symm, ?_⟩
      · exact OwnY.up (OwnY.mono (OwnY.keeps HO.out HKK.out (fun b h1 h2 h3 => by have := HSW.out; omega)) (by have := HSW.out; omega)) HKK.out.size (Nat.le_refl _)
      · exact HBB.out.trans (HKK.out.below HBB.out.size (fun k hk hS => by omega))
    · obtain ⟨e, ba, oa, he, ha, hb1, hc0, hc1, hc2, hc3, hc4⟩ := (EvsR.old HX.out HB.out).at_ hlt
      have HS := hid (readyOf_step (G := G) he)
      rw [HF.out] at HS
      have HSMY := hid (readyOf_small HF.out)
      clear he
      rw [ha]
      clear ha
      go_upto_region 5 with (fail)
      refine wp_world (fun w3 hw => ?_)
      have HEV : Hid (BoxEv w3 wr.heap.size e) := by rw [hw.out]; exact hid (BoxEv.new_ _ _ _ rfl)
      have B : Below wr.heap.size wr w3 := by rw [hw.out]; exact below_alloc _ _
      clear hw hc0 hc1 hc2 hc3 hc4 hb1
      have HV := hid (HV.out.old B)
      have HO := hid ((HO.out.old B).up B.size (Nat.le_refl _))
      have HB := hid (below_step HB.out B (Nat.le_refl _))
      clear B
      generalize wr.heap.size = ge at HEV ⊢
      obtain ⟨_, e0, e1, e2, e3, e4⟩ := HEV.out
      have v0 := HV.out.cell (j := 0) rfl
      have v1 := HV.out.cell (j := 1) rfl
      obtain ⟨_, g0, g1, g2, g3⟩ := HG.out.old HB.out
      go_wp2_with fail
      clear g0 g1 g2 g3 e0 e1 e2 e3 e4 v0 v1
      refine (implReadyAfter_any G ⟨⟨b0, m0, x0⟩, ⟨b1, m1, x1⟩, lb, ab⟩ e _ HO.out.reads HSMY.out).mono ?_
      rintro e' w4 ⟨⟨⟨y0, p0, q0⟩, ⟨y1, p1, q1⟩, lc, ad⟩, rfl, O, D, B⟩
      have HV := hid (HV.out.old B)
      have HO2 := hid (OwnY.mono O (show W.heap.size ≤ w3.heap.size from HB.out.size))
      have HD2 := hid D
      have HB := hid (below_step HB.out B (Nat.le_refl _))
      clear O D B HO HEV
      have HST := hid (ready_stored (R := ⟨⟨y0, p0, q0⟩, ⟨y1, p1, q1⟩, lc, ad⟩) HV.out HO2.out HG5.out)
      dsimp only at HST
      have v0 := HV.out.cell (j := 0) rfl
      have v1 := HV.out.cell (j := 1) rfl
      have f0 := HV.out.frozen 0
      have f1 := HV.out.frozen 1
      go_upto_region 6 with (fail)
      refine wp_world (fun w6 hw => ?_)
      have HST2 : Hid (Blk w6 g5 37 [.slice y0 p0 q0, .slice y1 p1 q1] ∧ OwnY w6 W.heap.size w6.heap.size ⟨⟨y0, p0, q0⟩, ⟨y1, p1, q1⟩, lc, ad⟩ ∧ Below W.heap.size w4 w6) := by rw [hw.out]; exact hid ⟨HST.out.1, HST.out.2.1, HST.out.2.2.1⟩
      clear hw HST v0 v1 f0 f1
      go_wp2_with fail
      go_roundw
      case rel => exact ⟨k + 1, ⟨⟨y0, p0, q0⟩, ⟨y1, p1, q1⟩, lc, ad⟩, by omega, by go_num, hid HST2.out.1, hid HST2.out.2.1, hid (by rw [HS.out, HD2.out]), hid (HB.out.trans HST2.out.2.2)⟩
      case measure => simp [intOf]; omega
set_option maxHeartbeats 4000000 in
set_option maxRecDepth 100000 in
theorem specReadyOf_any (G : Geo) (E : EvsE) (w : World) (hE : EvsRd w E) (hn : E.n ≤ 1048576) :
    Calls Try.prog 48 #[.agg #[.int .i64 G.a, .int .i64 G.b, .int .i64 G.r, .int .i64 G.c], .slice E.a E.n E.c] w fun e w' => ∃ Y' : RdyE, e = .returned (.agg #[.slice Y'.s0.a Y'.s0.n Y'.s0.c, .slice Y'.s1.a Y'.s1.n Y'.s1.c]) ∧ OwnY w' w.heap.size w'.heap.size Y' ∧ Y'.d = readyOf G E.d ∧ Below w.heap.size w w' := by
  have HX := hid hE
  have HL := hid hE.len
  clear hE
  go_enter Try.func48, Try.ntmps48
  go_upto_region 1 with (fail)
  refine wp_world (fun W hw => ?_)
  have HG : Hid (BoxG W w.heap.size G) := by rw [hw.out]; exact hid ((BoxG.new_ w 25 G rfl).old (below_alloc _ _))
  have HT : Hid (Blk W (w.heap.size + 1) 37 [.slice none 0 0, .slice none 0 0]) := by rw [hw.out]; exact hid (by simpa using Blk.new (w.alloc (.cells #[.int .i64 G.a, .int .i64 G.b, .int .i64 G.r, .int .i64 G.c] 25)) 37 [.slice none 0 0, .slice none 0 0])
  have HBW : Hid (Below w.heap.size w W) := by rw [hw.out]; exact hid (below_alloc2 _ _ _)
  have HSW : Hid (W.heap.size = w.heap.size + 2) := by rw [hw.out]; exact hid (by simp)
  have HX := hid (EvsRd.old HX.out HBW.out)
  clear hw
  obtain ⟨_, g0, g1, g2, g3⟩ := HG.out
  go_wp2_with fail
  clear g0 g1 g2 g3
  refine (specReadyNew_any G _).mono ?_
  rintro e w1 ⟨⟨⟨a0, n0, c0⟩, ⟨a1, n1, c1⟩, la, ac⟩, rfl, O, D, B⟩
  have HO1 := hid O
  have HD1 := hid D
  have HB1 := hid B
  clear O D B
  go_upto_region 2 with (fail)
  refine wp_world (fun w2 hw => ?_)
  have HV0 : Hid (Blk w2 w1.heap.size 37 [.slice a0 n0 c0, .slice a1 n1 c1]) := by rw [hw.out]; exact hid (Blk.new _ _ _)
  have B : Below w1.heap.size w1 w2 := by rw [hw.out]; exact below_alloc _ _
  clear hw
  have HO0 := hid ((HO1.out.old B).up B.size (Nat.le_refl _))
  have HB0 := hid (below_step HB1.out B (Nat.le_refl _))
  obtain ⟨g5, hg5⟩ : ∃ g, w1.heap.size = g := ⟨_, rfl⟩
  have HG5 : Hid (W.heap.size ≤ g5) := hid (by rw [← hg5]; exact HB1.out.size)
  rw [hg5] at HV0 ⊢
  clear hg5 HO1 HB1 B
  go_upto_region 3 with (fail)
  go_loopw [6] (fun i wr => ∃ (k : Nat) (Y : RdyE), k ≤ E.n ∧ i = .int .i64 k ∧ Hid (Blk wr g5 37 [.slice Y.s0.a Y.s0.n Y.s0.c, .slice Y.s1.a Y.s1.n Y.s1.c]) ∧ Hid (OwnY wr W.heap.size wr.heap.size Y) ∧ Hid (readyOf G (E.es.take k) = Y.d) ∧ Hid (Below W.heap.size W wr)) (fun i _ => E.n - (intOf i).toNat)
  case atStart => exact ⟨0, ⟨⟨a0, n0, c0⟩, ⟨a1, n1, c1⟩, la, ac⟩, Nat.zero_le _, rfl, HV0, HO0, hid (by rw [HD1.out]; rfl), HB0⟩
  case round =>
    clear HV0 HO0 HB0
    obtain ⟨k, ⟨⟨b0, m0, x0⟩, ⟨b1, m1, x1⟩, lb, ab⟩, hk, rfl, HV, HO, HF, HB⟩ := hrel
    dsimp only at HV
    by_cases hlt : k < E.n
    rotate_left
    · have hkn : k = E.n := by omega
      have hv : readyOf G E.es = ⟨lb, ab⟩ := by
        have hf := HF.out
        rw [List.take_of_length_le (by rw [← HL.out]; omega)] at hf
        exact hf
      have HFF := hid hv
      clear hkn hv HF
      have HT := hid (HT.out.old HB.out)
      have HBB := hid (HBW.out.trans (HB.out.mono HBW.out.size))
      have v0 := HV.out.cell (j := 0) rfl
      have v1 := HV.out.cell (j := 1) rfl
      have d0 := HT.out.cell (j := 0) rfl
      have d1 := HT.out.cell (j := 1) rfl
      have f0 := HT.out.frozen 0
      have f1 := HT.out.frozen 1
      have HKK := hid (stored2 wr (w.heap.size + 1) (.slice b0 m0 x0) (.slice b1 m1 x1))
      go_wp2_with fail
      refine bodyPost_ret (v := .agg #[.slice b0 m0 x0, .slice b1 m1 x1]) (by simp [results, Try.results48, go_sem, d0, d1]) rfl ⟨⟨⟨b0, m0, x0⟩, ⟨b1, m1, x1⟩, lb, ab⟩, rfl, ?_, HFF.out.symm, ?_⟩
      · exact OwnY.up (OwnY.mono (OwnY.keeps HO.out HKK.out (fun b h1 h2 h3 => by have := HSW.out; omega)) (by have := HSW.out; omega)) HKK.out.size (Nat.le_refl _)
      · exact HBB.out.trans (HKK.out.below HBB.out.size (fun k hk hS => by omega))
    · obtain ⟨e, ba, oa, he, ha, hb1, hc0, hc1, hc2, hc3, hc4⟩ := (EvsR.old HX.out HB.out).at_ hlt
      have HS := hid (readyOf_step (G := G) he)
      rw [HF.out] at HS
      have HSMY := hid (readyOf_small HF.out)
      clear he
      rw [ha]
      clear ha
      have HBL := hid hb1
      have HEV := hid (And.intro hc0 (And.intro hc1 (And.intro hc2 (And.intro hc3 hc4))))
      have hki : (0 : Int) ≤ (k : Int) := by omega
      have hki2 : (k : Int) < (E.n : Int) := by omega
      clear hc0 hc1 hc2 hc3 hc4 hb1
      go_upto_region 5 with (fail)
      refine growR_of 7 (fr := ?fr1)
        (fun i v w' => match i with
            | 0 => v = .agg #[.int .i64 G.a, .int .i64 G.b, .int .i64 G.r, .int .i64 G.c]
            | 1 => v = .agg #[.slice b0 m0 x0, .slice b1 m1 x1]
            | 2 => v = .slice (some ⟨ba, oa, none⟩) E.n E.c
            | 3 => v = .int .i64 k
            | 4 => v = .pointer (some ⟨ba, oa + k * 5, none⟩)
            | 5 => v = .agg #[.int .i64 e.t, .int .i64 e.c.k, .int .i64 e.c.b, .int .i64 e.c.r, .int .i64 e.c.c]
            | _ => ∃ Lx : RdyE, v = .agg #[.slice Lx.s0.a Lx.s0.n Lx.s0.c, .slice Lx.s1.a Lx.s1.n Lx.s1.c] ∧ OwnY w' wr.heap.size w'.heap.size Lx ∧ Lx.d = readyAfter G ⟨lb, ab⟩ e
          ) (by kernel_rfl) (by kernel_rfl) (by decide) (by kernel_rfl) ?hfr1 ⟨fun i => [u15, u16, u17, u18, u19, u20, u21].getD i undef, ?h01⟩ ?hF1 ?hstep1 ?hend1
      case hfr1 => intro vs; simp only [frOf, List.take_succ_cons, List.take_zero]; go_simp; exact rfl
      case h01 => rfl
      case hF1 =>
        intro i v w' w'' h hb
        match i, h with
        | 0, h => exact h
        | 1, h => exact h
        | 2, h => exact h
        | 3, h => exact h
        | 4, h => exact h
        | 5, h => exact h
        | n + 6, h => obtain ⟨Lx, e, o, d⟩ := h; exact ⟨Lx, e, OwnY.up (o.old hb) hb.size (Nat.le_refl _), d⟩
      case hstep1 =>
        intro vs w' i o hin ho hb hd
        match i, ho, hin with
        | 0, ho, _ =>
          simp only [List.getElem?_cons_zero, Option.some.injEq] at ho
          subst ho
          refine ⟨wanted_none rfl, ?_⟩
          obtain ⟨_, g0, g1, g2, g3⟩ := HG.out.old (HB.out.trans (hb.mono HB.out.size))
          generalize hK : (fun (a' : Act) (w'' : World) => ∃ v : Value, _ ∧ _ ∧ _) = K
          go_simp
          rw [← hK]
          exact ⟨_, rfl, rfl, Below.refl _ _⟩
        | 1, ho, _ =>
          simp only [List.getElem?_cons_succ, List.getElem?_cons_zero, Option.some.injEq] at ho
          subst ho
          refine ⟨wanted_none rfl, ?_⟩
          have v0 := (HV.out.old hb).cell (j := 0) rfl
          have v1 := (HV.out.old hb).cell (j := 1) rfl
          generalize hK : (fun (a' : Act) (w'' : World) => ∃ v : Value, _ ∧ _ ∧ _) = K
          go_simp
          rw [← hK]
          exact ⟨_, rfl, rfl, Below.refl _ _⟩
        | 2, ho, _ =>
          simp only [List.getElem?_cons_succ, List.getElem?_cons_zero, Option.some.injEq] at ho
          subst ho
          refine ⟨wanted_none rfl, ?_⟩
          generalize hK : (fun (a' : Act) (w'' : World) => ∃ v : Value, _ ∧ _ ∧ _) = K
          go_simp
          rw [← hK]
          exact ⟨_, rfl, rfl, Below.refl _ _⟩
        | 3, ho, _ =>
          simp only [List.getElem?_cons_succ, List.getElem?_cons_zero, Option.some.injEq] at ho
          subst ho
          refine ⟨wanted_none rfl, ?_⟩
          generalize hK : (fun (a' : Act) (w'' : World) => ∃ v : Value, _ ∧ _ ∧ _) = K
          go_simp
          rw [← hK]
          exact ⟨_, rfl, rfl, Below.refl _ _⟩
        | 4, ho, _ =>
          simp only [List.getElem?_cons_succ, List.getElem?_cons_zero, Option.some.injEq] at ho
          subst ho
          refine ⟨wanted_none rfl, ?_⟩
          have x2 : vs 2 = .slice (some ⟨ba, oa, none⟩) E.n E.c := hd 2 (by kernel_rfl)
          have x3 : vs 3 = .int .i64 k := hd 3 (by kernel_rfl)
          generalize hK : (fun (a' : Act) (w'' : World) => ∃ v : Value, _ ∧ _ ∧ _) = K
          generalize hu2 : vs 2 = u2 at x2 ⊢
          subst x2
          generalize hu3 : vs 3 = u3 at x3 ⊢
          subst x3
          go_simp
          rw [← hK]
          exact ⟨_, by simp [upd, hu2, hu3], rfl, Below.refl _ _⟩
        | 5, ho, _ =>
          simp only [List.getElem?_cons_succ, List.getElem?_cons_zero, Option.some.injEq] at ho
          subst ho
          refine ⟨wanted_none rfl, ?_⟩
          have x4 : vs 4 = .pointer (some ⟨ba, oa + k * 5, none⟩) := hd 4 (by kernel_rfl)
          obtain ⟨y0, y1, y2, y3, y4⟩ := HEV.out
          have c0 := (hb.cell (p := ⟨ba, oa + k * 5, none⟩) HBL.out).trans y0
          have c1 := (hb.cell (p := ⟨ba, oa + k * 5 + 1, none⟩) HBL.out).trans y1
          have c2 := (hb.cell (p := ⟨ba, oa + k * 5 + 2, none⟩) HBL.out).trans y2
          have c3 := (hb.cell (p := ⟨ba, oa + k * 5 + 3, none⟩) HBL.out).trans y3
          have c4 := (hb.cell (p := ⟨ba, oa + k * 5 + 4, none⟩) HBL.out).trans y4
          generalize hK : (fun (a' : Act) (w'' : World) => ∃ v : Value, _ ∧ _ ∧ _) = K
          generalize hu4 : vs 4 = u4 at x4 ⊢
          subst x4
          go_simp
          rw [← hK]
          exact ⟨_, by simp [upd, hu4], rfl, Below.refl _ _⟩
        | 6, ho, _ =>
          simp only [List.getElem?_cons_succ, List.getElem?_cons_zero, Option.some.injEq] at ho
          subst ho
          refine ⟨wanted_none rfl, ?_⟩
          have z0 : Hid (vs 0 = .agg #[.int .i64 G.a, .int .i64 G.b, .int .i64 G.r, .int .i64 G.c]) := hd 0 (by kernel_rfl)
          have z1 : Hid (vs 1 = .agg #[.slice b0 m0 x0, .slice b1 m1 x1]) := hd 1 (by kernel_rfl)
          have z5 : Hid (vs 5 = .agg #[.int .i64 e.t, .int .i64 e.c.k, .int .i64 e.c.b, .int .i64 e.c.r, .int .i64 e.c.c]) := hd 5 (by kernel_rfl)
          generalize hK : (fun (a' : Act) (w'' : World) => ∃ v : Value, _ ∧ _ ∧ _) = K
          go_simp
          refine (calls_args (by rw [z0.out, z1.out, z5.out]) (specReadyAfter_any G ⟨⟨b0, m0, x0⟩, ⟨b1, m1, x1⟩, lb, ab⟩ e _ (HO.out.reads.old hb) HSMY.out)).mono ?_
          rintro e w2 ⟨Lx, rfl, O, D1, B⟩
          rw [← hK]
          exact ⟨_, rfl, ⟨Lx, rfl, OwnY.mono O hb.size, D1⟩, B⟩
        | n + 7, _, hin => exact absurd hin (by omega)
      case hend1 =>
        intro vs w4 hb hf
        obtain ⟨⟨⟨y0, p0, q0⟩, ⟨y1, p1, q1⟩, lc, ad⟩, e6, O, D⟩ := hf 6 (by decide)
        have HO2 := hid (OwnY.mono O HB.out.size)
        have HD2 := hid D
        have HV := hid (HV.out.old hb)
        have HB := hid (below_step HB.out hb (Nat.le_refl _))
        clear O D hf hb
        generalize vs 6 = u6' at e6 ⊢
        subst e6
        have HST := hid (ready_stored (R := ⟨⟨y0, p0, q0⟩, ⟨y1, p1, q1⟩, lc, ad⟩) HV.out HO2.out HG5.out)
        dsimp only at HST
        have v0 := HV.out.cell (j := 0) rfl
        have v1 := HV.out.cell (j := 1) rfl
        have f0 := HV.out.frozen 0
        have f1 := HV.out.frozen 1
        simp only [List.drop_succ_cons, List.drop_zero]
        refine wpTail_plain rfl fun K hK => ?_
        go_simp
        refine hK _ _ (wpTail_nil ?_)
        clear v0 v1 f0 f1
        go_upto_region 4 with (fail)
        refine wp_world (fun w6 hw => ?_)
        have HST2 : Hid (Blk w6 g5 37 [.slice y0 p0 q0, .slice y1 p1 q1] ∧ OwnY w6 W.heap.size w6.heap.size ⟨⟨y0, p0, q0⟩, ⟨y1, p1, q1⟩, lc, ad⟩ ∧ Below W.heap.size w4 w6) := by rw [hw.out]; exact hid ⟨HST.out.1, HST.out.2.1, HST.out.2.2.1⟩
        clear hw HST
        go_wp2_with fail
        go_roundw
        case rel => exact ⟨k + 1, ⟨⟨y0, p0, q0⟩, ⟨y1, p1, q1⟩, lc, ad⟩, by omega, by go_num, hid HST2.out.1, hid HST2.out.2.1, hid (by rw [HS.out, HD2.out]; rfl), hid (HB.out.trans HST2.out.2.2)⟩
        case measure => simp [intOf]; omega
end Go.Proofs.Ytggjheapjklhgaa
