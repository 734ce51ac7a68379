/- ReadyAt: what the reference's returns. -/
import Derived.Test.YtggjheapjklhgaaRtP
namespace Go.Proofs.Ytggjheapjklhgaa
open Go.RowKit
set_option maxHeartbeats 8000000 in
set_option maxRecDepth 100000 in
theorem l10At_any (G : Geo) (T : Tim) (Y : RdyE) (C : Cmd) (w : World) (hY : RdyR w Y) (hs : Y.small) (ht : timOk T = true) (hr : RyB1 G Y.d) (hC : bkOk G C) :
    Calls Try.prog 111 #[.agg #[.int .i64 G.a, .int .i64 G.b, .int .i64 G.r, .int .i64 G.c], .agg #[.int .i64 T.t0, .int .i64 T.t1, .int .i64 T.t2, .int .i64 T.t3, .int .i64 T.t4, .int .i64 T.t5, .int .i64 T.t6, .int .i64 T.t7, .int .i64 T.t8, .int .i64 T.t9, .int .i64 T.t10, .int .i64 T.t11, .int .i64 T.t12, .int .i64 T.t13, .int .i64 T.t14, .int .i64 T.t15, .int .i64 T.t16], .agg #[.slice Y.s0.a Y.s0.n Y.s0.c, .slice Y.s1.a Y.s1.n Y.s1.c], .agg #[.int .i64 C.k, .int .i64 C.b, .int .i64 C.r, .int .i64 C.c]] w fun e w' => e = .returned (.int .i64 (atY G T Y.d C)) ∧ Below w.heap.size w w' := by
  have HX := hid hY
  have HSM := hid hs
  have HL0 : Hid (Y.s0.n = Y.last.length) := hid hY.l0
  have HL1 : Hid (Y.s1.n = Y.acts.length) := hid hY.l1
  obtain ⟨⟨a0, n0, c0⟩, ⟨a1, n1, c1⟩, last, acts⟩ := Y
  dsimp only at HL0 HL1
  clear hY hs
  have HG0 := hid ((((BoxG.new_ w 25 G rfl).old (below_alloc _ (.cells #[.int .i64 T.t0, .int .i64 T.t1, .int .i64 T.t2, .int .i64 T.t3, .int .i64 T.t4, .int .i64 T.t5, .int .i64 T.t6, .int .i64 T.t7, .int .i64 T.t8, .int .i64 T.t9, .int .i64 T.t10, .int .i64 T.t11, .int .i64 T.t12, .int .i64 T.t13, .int .i64 T.t14, .int .i64 T.t15, .int .i64 T.t16] 27))).old (below_alloc _ (.cells #[.slice a0 n0 c0, .slice a1 n1 c1] 37))).old (below_alloc _ (.cells #[.int .i64 C.k, .int .i64 C.b, .int .i64 C.r, .int .i64 C.c] 32)))
  have HT0 := hid (((BoxT.new_ (w.alloc (.cells #[.int .i64 G.a, .int .i64 G.b, .int .i64 G.r, .int .i64 G.c] 25)) 27 T (show _ = w.heap.size + 1 by simp)).old (below_alloc _ (.cells #[.slice a0 n0 c0, .slice a1 n1 c1] 37))).old (below_alloc _ (.cells #[.int .i64 C.k, .int .i64 C.b, .int .i64 C.r, .int .i64 C.c] 32)))
  have HK0 := hid ((BoxY.new_ ((w.alloc (.cells #[.int .i64 G.a, .int .i64 G.b, .int .i64 G.r, .int .i64 G.c] 25)).alloc (.cells #[.int .i64 T.t0, .int .i64 T.t1, .int .i64 T.t2, .int .i64 T.t3, .int .i64 T.t4, .int .i64 T.t5, .int .i64 T.t6, .int .i64 T.t7, .int .i64 T.t8, .int .i64 T.t9, .int .i64 T.t10, .int .i64 T.t11, .int .i64 T.t12, .int .i64 T.t13, .int .i64 T.t14, .int .i64 T.t15, .int .i64 T.t16] 27)) 37 ⟨⟨a0, n0, c0⟩, ⟨a1, n1, c1⟩, last, acts⟩ (show _ = w.heap.size + 1 + 1 by simp)).old (below_alloc _ (.cells #[.int .i64 C.k, .int .i64 C.b, .int .i64 C.r, .int .i64 C.c] 32)))
  have HC0 := hid (BoxC.new_ (((w.alloc (.cells #[.int .i64 G.a, .int .i64 G.b, .int .i64 G.r, .int .i64 G.c] 25)).alloc (.cells #[.int .i64 T.t0, .int .i64 T.t1, .int .i64 T.t2, .int .i64 T.t3, .int .i64 T.t4, .int .i64 T.t5, .int .i64 T.t6, .int .i64 T.t7, .int .i64 T.t8, .int .i64 T.t9, .int .i64 T.t10, .int .i64 T.t11, .int .i64 T.t12, .int .i64 T.t13, .int .i64 T.t14, .int .i64 T.t15, .int .i64 T.t16] 27)).alloc (.cells #[.slice a0 n0 c0, .slice a1 n1 c1] 37)) 32 C (show _ = w.heap.size + 1 + 1 + 1 by simp))
  have HBB := hid (below_allocs4 w (.cells #[.int .i64 G.a, .int .i64 G.b, .int .i64 G.r, .int .i64 G.c] 25) (.cells #[.int .i64 T.t0, .int .i64 T.t1, .int .i64 T.t2, .int .i64 T.t3, .int .i64 T.t4, .int .i64 T.t5, .int .i64 T.t6, .int .i64 T.t7, .int .i64 T.t8, .int .i64 T.t9, .int .i64 T.t10, .int .i64 T.t11, .int .i64 T.t12, .int .i64 T.t13, .int .i64 T.t14, .int .i64 T.t15, .int .i64 T.t16] 27) (.cells #[.slice a0 n0 c0, .slice a1 n1 c1] 37) (.cells #[.int .i64 C.k, .int .i64 C.b, .int .i64 C.r, .int .i64 C.c] 32))
  have HTO := hid ht
  have HRB := hid hr
  have HCB := hid hC
  clear ht hr hC
  go_enter Try.func111, Try.ntmps111
  go_upto_region 3 with (fail)
  refine wp_world (fun w3 hw => ?_)
  have HG : Hid (BoxG w3 w.heap.size G) := by rw [hw.out]; exact HG0
  have HT : Hid (BoxT w3 (w.heap.size + 1) T) := by rw [hw.out]; exact HT0
  have HK : Hid (BoxY w3 (w.heap.size + 1 + 1) ⟨⟨a0, n0, c0⟩, ⟨a1, n1, c1⟩, last, acts⟩) := by rw [hw.out]; exact HK0
  have HC : Hid (BoxC w3 (w.heap.size + 1 + 1 + 1) C) := by rw [hw.out]; exact HC0
  have HB : Hid (Below w.heap.size w w3) := by rw [hw.out]; exact HBB
  have HX := hid (HX.out.old HB.out)
  clear hw HG0 HT0 HK0 HC0 HBB
  go_loopw [9, 10] (fun v i wr => ∃ (k : Nat) (m : Int), k ≤ n0 ∧ i = .int .i64 k ∧ v = .int .i64 m ∧ Hid (maxY G T C last k = m) ∧ Hid (Below w3.heap.size w3 wr)) (fun _ i _ => n0 - (intOf i).toNat)
  case atStart => exact ⟨0, 0, Nat.zero_le _, rfl, rfl, hid rfl, hid (Below.refl _ _)⟩
  case round =>
    obtain ⟨k, m, hk, rfl, rfl, HM, HBr⟩ := hrel
    by_cases hlt : k < n0
    rotate_left
    · -- done
      have HMM : Hid (maxY G T C last last.length = m) := hid (by
        have hkn : k = n0 := by omega
        have h := HM.out
        rw [hkn, HL0.out] at h
        exact h)
      have hmb := maxY_bd (C := C) HTO.out HRB.out last.length (Nat.le_refl _)
      rw [show (RdyE.d ⟨⟨a0, n0, c0⟩, ⟨a1, n1, c1⟩, last, acts⟩).last = last from rfl, HMM.out] at hmb
      obtain ⟨_, k0, k1, k2, k3⟩ := HC.out.old HBr.out
      obtain ⟨_, y0, y1⟩ := HK.out.old HBr.out
      cases hk1 : (C.k == 1) with
      | false =>
        have hat := atY_eq (D := RdyE.d ⟨⟨a0, n0, c0⟩, ⟨a1, n1, c1⟩, last, acts⟩) HMM.out (by rw [hk1]; rfl)
        have HAT := hid hat
        clear hat
        go_wp2_with fail
        go_ret
        exact ⟨by rw [HAT.out]; rfl, HB.out.trans (HBr.out.mono HB.out.size)⟩
      | true =>
        by_cases h4 : n1 = 4
        rotate_left
        · have h4i : ¬ (n1 : Int) = 4 := by omega
          have h4b : ((n1 : Int) == 4) = false := by simpa using h4i
          have hat := atY_eq (D := RdyE.d ⟨⟨a0, n0, c0⟩, ⟨a1, n1, c1⟩, last, acts⟩) HMM.out (by rw [show (RdyE.d ⟨⟨a0, n0, c0⟩, ⟨a1, n1, c1⟩, last, acts⟩).acts.length = n1 from HL1.out.symm]; simp [h4])
          have HAT := hid hat
          clear hat
          go_wp2_with fail
          go_ret
          exact ⟨by rw [HAT.out]; rfl, HB.out.trans (HBr.out.mono HB.out.size)⟩
        · obtain ⟨x, hx⟩ := some_at (xs := acts) HL1.out (show 0 < n1 by omega)
          obtain ⟨b4, o4, ha4, hb4, hc4⟩ := (HX.out.old HBr.out).acts 0 x hx
          dsimp only at ha4
          rw [Nat.add_zero] at hc4
          have hxb := HRB.out.acts 0 x hx
          have hat := atY_eq4 (D := RdyE.d ⟨⟨a0, n0, c0⟩, ⟨a1, n1, c1⟩, last, acts⟩) HMM.out (by rw [hk1, show (RdyE.d ⟨⟨a0, n0, c0⟩, ⟨a1, n1, c1⟩, last, acts⟩).acts.length = n1 from HL1.out.symm]; simp [h4])
          rw [show (RdyE.d ⟨⟨a0, n0, c0⟩, ⟨a1, n1, c1⟩, last, acts⟩).acts.getD 0 0 = x from getD_of hx] at hat
          subst ha4
          have ht5 := (timOk_bd HTO.out).b5
          have sw : IntKind.i64.wrap (x + T.t5) = x + T.t5 := IntWalk.i64_in _ (by omega)
          have h4i : (n1 : Int) = 4 := by omega
          have h4b : ((n1 : Int) == 4) = true := by simpa using h4i
          have h41 : (0 : Int) < (n1 : Int) := by omega
          clear hx ht5
          have HAT4 := hid hat
          have HN4 := hid h4
          clear hat h4
          go_upto_region 11 with (fail)
          have t5 := (HT.out.old HBr.out).cs 5 _ rfl
          have tlt := (HT.out.old HBr.out).lt
          have ylt := (HK.out.old HBr.out).lt
          have hov := over_cell wr
          refine wp_region_over (by kernel_rfl) (by kernel_rfl) ?_
          repeat (go_big_quiet_step (fail))
          refine wpQuiet_nil ?_
          intro w9 B9
          have HB9 := hid (below_step HBr.out B9 (Nat.le_refl _))
          rw [show (if m < x + T.t5 then x + T.t5 else m) = mx m (x + T.t5) from rfl]
          clear hov t5 tlt ylt B9 sw k0 k1 k2 k3 y0 y1
          obtain ⟨m4, hm4⟩ : ∃ z, mx m (x + T.t5) = z := ⟨_, rfl⟩
          rw [hm4]
          have hat := HAT4.out.trans hm4
          clear hm4
          have HAT := hid hat
          clear hat
          go_wp2_with fail
          go_ret
          exact ⟨by rw [HAT.out]; rfl, HB.out.trans (HB9.out.mono HB.out.size)⟩
    · obtain ⟨x, hx⟩ := some_at HL0.out hlt
      obtain ⟨bl, ol, hal, hbl, hcl⟩ := (HX.out.old HBr.out).last k x hx
      dsimp only at hal
      subst hal
      have hxb := HRB.out.last k x hx
      have HXL := hid hx
      have hxb1 := hxb.1
      have hn0b : n0 ≤ 1048576 := by have h1 := HSM.out.1; have h2 := HL0.out; dsimp only at h1; omega
      have HSX := hid (show maxY G T C last (k + 1) = stepY G T C k m x by show stepY G T C k (maxY G T C last k) (last.getD k 0) = _; rw [HM.out, getD_of hx])
      have hki : (0 : Int) ≤ (k : Int) := by omega
      have hki2 : (k : Int) < (n0 : Int) := by omega
      clear hx
      obtain ⟨_, y0, y1⟩ := HK.out.old HBr.out
      by_cases hneg : x < 0
      · have HV := hid (HSX.out.trans (show stepY G T C k m x = m by unfold stepY; rw [if_pos hneg]))
        go_wp2_with fail
        go_roundw
        case rel => exact ⟨k + 1, m, by omega, by go_num, rfl, HV, HBr⟩
        case measure => simp [intOf]; omega
      · obtain ⟨hca, hcb⟩ := cmdAt_used (hxb.2.resolve_left (by omega))
        have HCA := hid hca
        have HCK := hid hcb
        obtain ⟨gv, hgv⟩ : ∃ v, gapF G T (cmdAt G k) C = v := ⟨_, rfl⟩
        have hgb := gapF_bd HTO.out G (cmdAt G k) C
        rw [hgv] at hgb
        have HGV := hid hgv
        have HV := hid (HSX.out.trans (show stepY G T C k m x = mx m (x + gv) by unfold stepY; rw [if_neg hneg, hgv]))
        have hkm : k ≤ 1048576 := by have h1 := HSM.out.1; have h2 := HL0.out; show k ≤ 1048576; dsimp only at h1; omega
        have sw : IntKind.i64.wrap (x + gv) = x + gv := IntWalk.i64_in _ (by omega)
        have h9 : 0 ≤ (k : Int) % 9 ∧ (k : Int) % 9 ≤ 8 := by omega
        have sk : IntKind.i64.wrap ((k : Int) % 9 + 1) = (k : Int) % 9 + 1 := IntWalk.i64_in _ (by omega)
        clear hgv hca hcb
        go_upto_region 7 with (fail)
        refine wp_world (fun w4 hw => ?_)
        have HD : Hid (Blk w4 wr.heap.size 32 [.int .i64 ((k : Int) % 9 + 1), .int .i64 0, .int .i64 0, .int .i64 0]) := by rw [hw.out]; exact hid (Blk.new _ _ _)
        have B : Below wr.heap.size wr w4 := by rw [hw.out]; exact below_alloc _ _
        clear hw hcl hbl y0 y1
        have HB4 := hid (below_step HBr.out B (Nat.le_refl _))
        have HGC : Hid (w3.heap.size ≤ wr.heap.size) := hid HBr.out.size
        clear B HBr
        generalize wr.heap.size = gc at HD HGC ⊢
        have d0 := HD.out.cell (j := 0) rfl
        cases h5 : decide ((k : Int) % 9 + 1 ≤ 5)
        · have HCV := hid (show cmdAt G k = ⟨(k : Int) % 9 + 1, 0, 0, 0⟩ by rw [HCA.out, h5]; rfl)
          go_upto_region 9 with (fail)
          have w4B := HB4
          clear d0 HB4
          obtain ⟨bl, ol, hal, hbl, hcl⟩ := (HX.out.old w4B.out).last k x (by have h := HXL.out; exact h)
          dsimp only at hal
          simp only [Option.some.injEq, Addr.mk.injEq, and_true] at hal
          obtain ⟨rfl, rfl⟩ := hal
          have hdl := HD.out.lt
          have d0 := HD.out.cell (j := 0) rfl
          have d1 := HD.out.cell (j := 1) rfl
          have d2 := HD.out.cell (j := 2) rfl
          have d3 := HD.out.cell (j := 3) rfl
          obtain ⟨hlc, k0, k1, k2, k3⟩ := HC.out.old w4B.out
          obtain ⟨hlg, g0, g1, g2, g3⟩ := HG.out.old w4B.out
          obtain ⟨hly, y0, y1⟩ := HK.out.old w4B.out
          have HT3 := hid (HT.out.old w4B.out)
          have hov := over_cell w4
          refine wp_region_over (by kernel_rfl) (by kernel_rfl) ?_
          repeat (first | (refine wpQuiet_load_tim (by rintro _ ⟨t, rfl⟩; exact HT3.out.old t.below) rfl _ (by rfl) (by rfl) ?_; simp only [Act.put, List.setIfInBounds_toArray, List.set_cons_succ, List.set_cons_zero]) | go_big_quiet_step ((go_at_call 114; exact calls_over (calls_int HGV.out (calls_args (by rw [HCV.out]) (l07Gap_any G T (cmdAt G k) C _ HTO.out HRB.out.geo HCK.out HCB.out))))))
          refine wpQuiet_nil ?_
          intro w8 B8
          have HB8 := hid (below_step w4B.out B8 (Nat.le_refl _))
          rw [show (if m < x + gv then x + gv else m) = mx m (x + gv) from rfl]
          clear hov d0 d1 d2 d3 k0 k1 k2 k3 g0 g1 g2 g3 y0 y1 B8 sw sk
          go_wp2_with fail
          go_roundw
          case rel => exact ⟨k + 1, _, by omega, by go_num, rfl, HV, HB8⟩
          case measure => simp [intOf]; omega
        · have HCV := hid (show cmdAt G k = ⟨(k : Int) % 9 + 1, (k : Int) / 9, 0, 0⟩ by rw [HCA.out, h5]; rfl)
          have d1 := HD.out.cell (j := 1) rfl
          have f1 := HD.out.frozen 1
          have HS := hid (HD.out.set 1 (.int .i64 ((k : Int) / 9)))
          go_upto_region 9 with (fail)
          refine wp_world (fun w6 hw => ?_)
          have K6 : Keeps (· = gc) w4 w6 := by rw [hw.out]; exact HS.out.2
          have HD6 : Hid (Blk w6 gc 32 [.int .i64 ((k : Int) % 9 + 1), .int .i64 ((k : Int) / 9), .int .i64 0, .int .i64 0]) := by rw [hw.out]; exact hid HS.out.1
          have w6B := hid (HB4.out.trans (K6.below (by have := HB4.out.size; omega) (fun q hq e => by have := HGC.out; omega)))
          clear hw HS d0 d1 f1 HD K6 HB4
          have HD := HD6
          clear HD6
          obtain ⟨bl, ol, hal, hbl, hcl⟩ := (HX.out.old w6B.out).last k x (by have h := HXL.out; exact h)
          dsimp only at hal
          simp only [Option.some.injEq, Addr.mk.injEq, and_true] at hal
          obtain ⟨rfl, rfl⟩ := hal
          have hdl := HD.out.lt
          have d0 := HD.out.cell (j := 0) rfl
          have d1 := HD.out.cell (j := 1) rfl
          have d2 := HD.out.cell (j := 2) rfl
          have d3 := HD.out.cell (j := 3) rfl
          obtain ⟨hlc, k0, k1, k2, k3⟩ := HC.out.old w6B.out
          obtain ⟨hlg, g0, g1, g2, g3⟩ := HG.out.old w6B.out
          obtain ⟨hly, y0, y1⟩ := HK.out.old w6B.out
          have HT3 := hid (HT.out.old w6B.out)
          have hov := over_cell w6
          refine wp_region_over (by kernel_rfl) (by kernel_rfl) ?_
          repeat (first | (refine wpQuiet_load_tim (by rintro _ ⟨t, rfl⟩; exact HT3.out.old t.below) rfl _ (by rfl) (by rfl) ?_; simp only [Act.put, List.setIfInBounds_toArray, List.set_cons_succ, List.set_cons_zero]) | go_big_quiet_step ((go_at_call 114; exact calls_over (calls_int HGV.out (calls_args (by rw [HCV.out]) (l07Gap_any G T (cmdAt G k) C _ HTO.out HRB.out.geo HCK.out HCB.out))))))
          refine wpQuiet_nil ?_
          intro w8 B8
          have HB8 := hid (below_step w6B.out B8 (Nat.le_refl _))
          rw [show (if m < x + gv then x + gv else m) = mx m (x + gv) from rfl]
          clear hov d0 d1 d2 d3 k0 k1 k2 k3 g0 g1 g2 g3 y0 y1 B8 sw sk
          go_wp2_with fail
          go_roundw
          case rel => exact ⟨k + 1, _, by omega, by go_num, rfl, HV, HB8⟩
          case measure => simp [intOf]; omega
set_option maxHeartbeats 8000000 in
set_option maxRecDepth 100000 in
theorem specReadyAt_any (G : Geo) (T : Tim) (Y : RdyE) (C : Cmd) (w : World) (hY : RdyR w Y) (hs : Y.small) :
    Calls Try.prog 53 #[.agg #[.int .i64 G.a, .int .i64 G.b, .int .i64 G.r, .int .i64 G.c], .agg #[.int .i64 T.t0, .int .i64 T.t1, .int .i64 T.t2, .int .i64 T.t3, .int .i64 T.t4, .int .i64 T.t5, .int .i64 T.t6, .int .i64 T.t7, .int .i64 T.t8, .int .i64 T.t9, .int .i64 T.t10, .int .i64 T.t11, .int .i64 T.t12, .int .i64 T.t13, .int .i64 T.t14, .int .i64 T.t15, .int .i64 T.t16], .agg #[.slice Y.s0.a Y.s0.n Y.s0.c, .slice Y.s1.a Y.s1.n Y.s1.c], .agg #[.int .i64 C.k, .int .i64 C.b, .int .i64 C.r, .int .i64 C.c]] w fun e w' => e = .returned (.int .i64 (readyAt G T Y.d C)) ∧ Below w.heap.size w w' := by
  have HX := hid hY
  have HSM := hid hs
  have HL0 : Hid (Y.s0.n = Y.last.length) := hid hY.l0
  have HL1 : Hid (Y.s1.n = Y.acts.length) := hid hY.l1
  obtain ⟨⟨a0, n0, c0⟩, ⟨a1, n1, c1⟩, last, acts⟩ := Y
  dsimp only at HL0 HL1
  clear hY hs
  have HG0 := hid ((((BoxG.new_ w 25 G rfl).old (below_alloc _ (.cells #[.int .i64 T.t0, .int .i64 T.t1, .int .i64 T.t2, .int .i64 T.t3, .int .i64 T.t4, .int .i64 T.t5, .int .i64 T.t6, .int .i64 T.t7, .int .i64 T.t8, .int .i64 T.t9, .int .i64 T.t10, .int .i64 T.t11, .int .i64 T.t12, .int .i64 T.t13, .int .i64 T.t14, .int .i64 T.t15, .int .i64 T.t16] 27))).old (below_alloc _ (.cells #[.slice a0 n0 c0, .slice a1 n1 c1] 37))).old (below_alloc _ (.cells #[.int .i64 C.k, .int .i64 C.b, .int .i64 C.r, .int .i64 C.c] 32)))
  have HT0 := hid (((BoxT.new_ (w.alloc (.cells #[.int .i64 G.a, .int .i64 G.b, .int .i64 G.r, .int .i64 G.c] 25)) 27 T (show _ = w.heap.size + 1 by simp)).old (below_alloc _ (.cells #[.slice a0 n0 c0, .slice a1 n1 c1] 37))).old (below_alloc _ (.cells #[.int .i64 C.k, .int .i64 C.b, .int .i64 C.r, .int .i64 C.c] 32)))
  have HK0 := hid ((BoxY.new_ ((w.alloc (.cells #[.int .i64 G.a, .int .i64 G.b, .int .i64 G.r, .int .i64 G.c] 25)).alloc (.cells #[.int .i64 T.t0, .int .i64 T.t1, .int .i64 T.t2, .int .i64 T.t3, .int .i64 T.t4, .int .i64 T.t5, .int .i64 T.t6, .int .i64 T.t7, .int .i64 T.t8, .int .i64 T.t9, .int .i64 T.t10, .int .i64 T.t11, .int .i64 T.t12, .int .i64 T.t13, .int .i64 T.t14, .int .i64 T.t15, .int .i64 T.t16] 27)) 37 ⟨⟨a0, n0, c0⟩, ⟨a1, n1, c1⟩, last, acts⟩ (show _ = w.heap.size + 1 + 1 by simp)).old (below_alloc _ (.cells #[.int .i64 C.k, .int .i64 C.b, .int .i64 C.r, .int .i64 C.c] 32)))
  have HC0 := hid (BoxC.new_ (((w.alloc (.cells #[.int .i64 G.a, .int .i64 G.b, .int .i64 G.r, .int .i64 G.c] 25)).alloc (.cells #[.int .i64 T.t0, .int .i64 T.t1, .int .i64 T.t2, .int .i64 T.t3, .int .i64 T.t4, .int .i64 T.t5, .int .i64 T.t6, .int .i64 T.t7, .int .i64 T.t8, .int .i64 T.t9, .int .i64 T.t10, .int .i64 T.t11, .int .i64 T.t12, .int .i64 T.t13, .int .i64 T.t14, .int .i64 T.t15, .int .i64 T.t16] 27)).alloc (.cells #[.slice a0 n0 c0, .slice a1 n1 c1] 37)) 32 C (show _ = w.heap.size + 1 + 1 + 1 by simp))
  have HBB := hid (below_allocs4 w (.cells #[.int .i64 G.a, .int .i64 G.b, .int .i64 G.r, .int .i64 G.c] 25) (.cells #[.int .i64 T.t0, .int .i64 T.t1, .int .i64 T.t2, .int .i64 T.t3, .int .i64 T.t4, .int .i64 T.t5, .int .i64 T.t6, .int .i64 T.t7, .int .i64 T.t8, .int .i64 T.t9, .int .i64 T.t10, .int .i64 T.t11, .int .i64 T.t12, .int .i64 T.t13, .int .i64 T.t14, .int .i64 T.t15, .int .i64 T.t16] 27) (.cells #[.slice a0 n0 c0, .slice a1 n1 c1] 37) (.cells #[.int .i64 C.k, .int .i64 C.b, .int .i64 C.r, .int .i64 C.c] 32))
  go_enter Try.func53, Try.ntmps53
  go_upto_region 1 with (fail)
  refine wp_world (fun W hw => ?_)
  have HG : Hid (BoxG W w.heap.size G) := by rw [hw.out]; exact HG0
  have HT : Hid (BoxT W (w.heap.size + 1) T) := by rw [hw.out]; exact HT0
  have HK : Hid (BoxY W (w.heap.size + 1 + 1) ⟨⟨a0, n0, c0⟩, ⟨a1, n1, c1⟩, last, acts⟩) := by rw [hw.out]; exact HK0
  have HC : Hid (BoxC W (w.heap.size + 1 + 1 + 1) C) := by rw [hw.out]; exact HC0
  have HB : Hid (Below w.heap.size w W) := by rw [hw.out]; exact HBB
  have HX := hid (HX.out.old HB.out)
  clear hw HG0 HT0 HK0 HC0 HBB
  go_wp2_with (refine wpList_load_tim HT.out rfl _ (by rfl) (by rfl) ?_)
  refine (specTimingOk_any T _).mono ?_
  rintro e w1 ⟨rfl, B⟩
  have HG := hid (HG.out.old B)
  have HT := hid (HT.out.old B)
  have HK := hid (HK.out.old B)
  have HC := hid (HC.out.old B)
  have HB := hid (below_step HB.out B (Nat.le_refl _))
  have HX := hid (HX.out.old B)
  clear B
  have ret1 : ∀ h : (timOk T && (readyOk G (RdyE.d ⟨⟨a0, n0, c0⟩, ⟨a1, n1, c1⟩, last, acts⟩) && cmdOk G C)) = false, readyAt G T (RdyE.d ⟨⟨a0, n0, c0⟩, ⟨a1, n1, c1⟩, last, acts⟩) C = -1 := fun h => readyAt_no h
  have HR1 := hid ret1
  clear ret1
  cases ht : timOk T with
  | false =>
    have HRR := hid (HR1.out (by rw [ht]; rfl))
    go_wp2_with fail
    go_ret
    exact ⟨by rw [HRR.out]; rfl, HB.out⟩
  | true =>
    have HTO := hid ht
    clear ht
    obtain ⟨_, g0, g1, g2, g3⟩ := HG.out
    obtain ⟨_, y0, y1⟩ := HK.out
    go_wp2_with fail
    clear g0 g1 g2 g3 y0 y1
    refine (specReadyOk_any G ⟨⟨a0, n0, c0⟩, ⟨a1, n1, c1⟩, last, acts⟩ _ HX.out HSM.out).mono ?_
    rintro e w2 ⟨rfl, B⟩
    have HG := hid (HG.out.old B)
    have HT := hid (HT.out.old B)
    have HK := hid (HK.out.old B)
    have HC := hid (HC.out.old B)
    have HB := hid (below_step HB.out B (Nat.le_refl _))
    have HX := hid (HX.out.old B)
    clear B
    cases hr : readyOk G (RdyE.d ⟨⟨a0, n0, c0⟩, ⟨a1, n1, c1⟩, last, acts⟩) with
    | false =>
      have HRR := hid (HR1.out (by rw [hr]; simp))
      go_wp2_with fail
      go_ret
      exact ⟨by rw [HRR.out]; rfl, HB.out⟩
    | true =>
      have HRO := hid hr
      have HRB := hid (RyB1.of hr)
      clear hr
      obtain ⟨_, g0, g1, g2, g3⟩ := HG.out
      obtain ⟨_, k0, k1, k2, k3⟩ := HC.out
      go_wp2_with fail
      clear g0 g1 g2 g3 k0 k1 k2 k3
      refine (specCommandOk_any G C _).mono ?_
      rintro e w3 ⟨rfl, B⟩
      have HG := hid (HG.out.old B)
      have HT := hid (HT.out.old B)
      have HK := hid (HK.out.old B)
      have HC := hid (HC.out.old B)
      have HB := hid (below_step HB.out B (Nat.le_refl _))
      have HX := hid (HX.out.old B)
      clear B
      cases hc : cmdOk G C with
      | false =>
        have HRR := hid (HR1.out (by rw [hc]; simp))
        go_wp2_with fail
        go_ret
        exact ⟨by rw [HRR.out]; rfl, HB.out⟩
      | true =>
        have HCO := hid hc
        have HRY := hid (readyAt_yes HTO.out HRO.out hc)
        clear hc
        obtain ⟨_, g0, g1, g2, g3⟩ := HG.out
        obtain ⟨_, y0, y1⟩ := HK.out
        obtain ⟨_, k0, k1, k2, k3⟩ := HC.out
        go_wp2_with (refine wpList_load_tim HT.out rfl _ (by rfl) (by rfl) ?_)
        clear g0 g1 g2 g3 y0 y1 k0 k1 k2 k3
        refine (l10At_any G T ⟨⟨a0, n0, c0⟩, ⟨a1, n1, c1⟩, last, acts⟩ C _ HX.out HSM.out HTO.out HRB.out (bkOk_of HCO.out)).mono ?_
        rintro e w4 ⟨rfl, B⟩
        have HB := hid (below_step HB.out B (Nat.le_refl _))
        clear B
        obtain ⟨m, hm⟩ : ∃ m, atY G T (RdyE.d ⟨⟨a0, n0, c0⟩, ⟨a1, n1, c1⟩, last, acts⟩) C = m := ⟨_, rfl⟩
        rw [hm]
        have HAT := hid (hm)
        rw [HAT.out] at HRY
        by_cases hlim : 1000000 < m
        · have HRR := hid (HRY.out.trans (if_pos hlim))
          go_wp2_with fail
          go_ret
          exact ⟨by rw [HRR.out]; rfl, HB.out⟩
        · have HRR := hid (HRY.out.trans (if_neg hlim))
          go_wp2_with fail
          go_ret
          exact ⟨by rw [HRR.out]; rfl, HB.out⟩
end Go.Proofs.Ytggjheapjklhgaa
