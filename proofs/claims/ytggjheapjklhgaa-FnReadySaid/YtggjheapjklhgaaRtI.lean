/- ReadyAt: what the program's returns. -/
import Derived.Test.YtggjheapjklhgaaRtP
namespace Go.Proofs.Ytggjheapjklhgaa
open Go.RowKit
set_option maxHeartbeats 8000000 in
set_option maxRecDepth 100000 in
theorem implReadyAt_any (G : Geo) (T : Tim) (Y : RdyE) (C : Cmd) (w : World) (hY : RdyR w Y) (hs : Y.small) :
    Calls Try.prog 24 #[.agg #[.int .i64 G.a, .int .i64 G.b, .int .i64 G.r, .int .i64 G.c], .agg #[.int .i64 T.t0, .int .i64 T.t1, .int .i64 T.t2, .int .i64 T.t3, .int .i64 T.t4, .int .i64 T.t5, .int .i64 T.t6, .int .i64 T.t7, .int .i64 T.t8, .int .i64 T.t9, .int .i64 T.t10, .int .i64 T.t11, .int .i64 T.t12, .int .i64 T.t13, .int .i64 T.t14, .int .i64 T.t15, .int .i64 T.t16], .agg #[.slice Y.s0.a Y.s0.n Y.s0.c, .slice Y.s1.a Y.s1.n Y.s1.c], .agg #[.int .i64 C.k, .int .i64 C.b, .int .i64 C.r, .int .i64 C.c]] w fun e w' => e = .returned (.int .i64 (readyAt G T Y.d C)) ∧ Below w.heap.size w w' := by
  have HX := hid hY
  have HSM := hid hs
  have HL0 : Hid (Y.s0.n = Y.last.length) := hid hY.l0
  have HL1 : Hid (Y.s1.n = Y.acts.length) := hid hY.l1
  obtain ⟨⟨a0, n0, c0⟩, ⟨a1, n1, c1⟩, last, acts⟩ := Y
  dsimp only at HL0 HL1
  clear hY hs
  have HG0 := hid ((((BoxG.new_ w 25 G rfl).old (below_alloc _ (.cells #[.int .i64 T.t0, .int .i64 T.t1, .int .i64 T.t2, .int .i64 T.t3, .int .i64 T.t4, .int .i64 T.t5, .int .i64 T.t6, .int .i64 T.t7, .int .i64 T.t8, .int .i64 T.t9, .int .i64 T.t10, .int .i64 T.t11, .int .i64 T.t12, .int .i64 T.t13, .int .i64 T.t14, .int .i64 T.t15, .int .i64 T.t16] 27))).old (below_alloc _ (.cells #[.slice a0 n0 c0, .slice a1 n1 c1] 37))).old (below_alloc _ (.cells #[.int .i64 C.k, .int .i64 C.b, .int .i64 C.r, .int .i64 C.c] 32)))
  have HT0 := hid (((BoxT.new_ (w.alloc (.cells #[.int .i64 G.a, .int .i64 G.b, .int .i64 G.r, .int .i64 G.c] 25)) 27 T (show _ = w.heap.size + 1 by simp)).old (below_alloc _ (.cells #[.slice a0 n0 c0, .slice a1 n1 c1] 37))).old (below_alloc _ (.cells #[.int .i64 C.k, .int .i64 C.b, .int .i64 C.r, .int .i64 C.c] 32)))
  have HK0 := hid ((BoxY.new_ ((w.alloc (.cells #[.int .i64 G.a, .int .i64 G.b, .int .i64 G.r, .int .i64 G.c] 25)).alloc (.cells #[.int .i64 T.t0, .int .i64 T.t1, .int .i64 T.t2, .int .i64 T.t3, .int .i64 T.t4, .int .i64 T.t5, .int .i64 T.t6, .int .i64 T.t7, .int .i64 T.t8, .int .i64 T.t9, .int .i64 T.t10, .int .i64 T.t11, .int .i64 T.t12, .int .i64 T.t13, .int .i64 T.t14, .int .i64 T.t15, .int .i64 T.t16] 27)) 37 ⟨⟨a0, n0, c0⟩, ⟨a1, n1, c1⟩, last, acts⟩ (show _ = w.heap.size + 1 + 1 by simp)).old (below_alloc _ (.cells #[.int .i64 C.k, .int .i64 C.b, .int .i64 C.r, .int .i64 C.c] 32)))
  have HC0 := hid (BoxC.new_ (((w.alloc (.cells #[.int .i64 G.a, .int .i64 G.b, .int .i64 G.r, .int .i64 G.c] 25)).alloc (.cells #[.int .i64 T.t0, .int .i64 T.t1, .int .i64 T.t2, .int .i64 T.t3, .int .i64 T.t4, .int .i64 T.t5, .int .i64 T.t6, .int .i64 T.t7, .int .i64 T.t8, .int .i64 T.t9, .int .i64 T.t10, .int .i64 T.t11, .int .i64 T.t12, .int .i64 T.t13, .int .i64 T.t14, .int .i64 T.t15, .int .i64 T.t16] 27)).alloc (.cells #[.slice a0 n0 c0, .slice a1 n1 c1] 37)) 32 C (show _ = w.heap.size + 1 + 1 + 1 by simp))
  have HBB := hid (below_allocs4 w (.cells #[.int .i64 G.a, .int .i64 G.b, .int .i64 G.r, .int .i64 G.c] 25) (.cells #[.int .i64 T.t0, .int .i64 T.t1, .int .i64 T.t2, .int .i64 T.t3, .int .i64 T.t4, .int .i64 T.t5, .int .i64 T.t6, .int .i64 T.t7, .int .i64 T.t8, .int .i64 T.t9, .int .i64 T.t10, .int .i64 T.t11, .int .i64 T.t12, .int .i64 T.t13, .int .i64 T.t14, .int .i64 T.t15, .int .i64 T.t16] 27) (.cells #[.slice a0 n0 c0, .slice a1 n1 c1] 37) (.cells #[.int .i64 C.k, .int .i64 C.b, .int .i64 C.r, .int .i64 C.c] 32))
  go_enter Try.func24, Try.ntmps24
  go_upto_region 1 with (fail)
  refine wp_world (fun W hw => ?_)
  have HG : Hid (BoxG W w.heap.size G) := by rw [hw.out]; exact HG0
  have HT : Hid (BoxT W (w.heap.size + 1) T) := by rw [hw.out]; exact HT0
  have HK : Hid (BoxY W (w.heap.size + 1 + 1) ⟨⟨a0, n0, c0⟩, ⟨a1, n1, c1⟩, last, acts⟩) := by rw [hw.out]; exact HK0
  have HC : Hid (BoxC W (w.heap.size + 1 + 1 + 1) C) := by rw [hw.out]; exact HC0
  have HB : Hid (Below w.heap.size w W) := by rw [hw.out]; exact HBB
  have HX := hid (HX.out.old HB.out)
  clear hw HG0 HT0 HK0 HC0 HBB
  go_wp2_with (refine wpList_load_tim HT.out rfl _ (by rfl) (by rfl) ?_)
  refine (implTimingOk_any T _).mono ?_
  rintro e w1 ⟨rfl, B⟩
  have HG := hid (HG.out.old B)
  have HT := hid (HT.out.old B)
  have HK := hid (HK.out.old B)
  have HC := hid (HC.out.old B)
  have HB := hid (below_step HB.out B (Nat.le_refl _))
  have HX := hid (HX.out.old B)
  clear B
  have ret1 : ∀ h : (timOk T && (readyOk G (RdyE.d ⟨⟨a0, n0, c0⟩, ⟨a1, n1, c1⟩, last, acts⟩) && cmdOk G C)) = false, readyAt G T (RdyE.d ⟨⟨a0, n0, c0⟩, ⟨a1, n1, c1⟩, last, acts⟩) C = -1 := fun h => readyAt_no h
  have HR1 := hid ret1
  clear ret1
  cases ht : timOk T with
  | false =>
    have HRR := hid (HR1.out (by rw [ht]; rfl))
    go_wp2_with fail
    go_ret
    exact ⟨by rw [HRR.out]; rfl, HB.out⟩
  | true =>
    have HTO := hid ht
    clear ht
    obtain ⟨_, g0, g1, g2, g3⟩ := HG.out
    obtain ⟨_, y0, y1⟩ := HK.out
    go_wp2_with fail
    clear g0 g1 g2 g3 y0 y1
    refine (implReadyOk_any G ⟨⟨a0, n0, c0⟩, ⟨a1, n1, c1⟩, last, acts⟩ _ HX.out HSM.out).mono ?_
    rintro e w2 ⟨rfl, B⟩
    have HG := hid (HG.out.old B)
    have HT := hid (HT.out.old B)
    have HK := hid (HK.out.old B)
    have HC := hid (HC.out.old B)
    have HB := hid (below_step HB.out B (Nat.le_refl _))
    have HX := hid (HX.out.old B)
    clear B
    cases hr : readyOk G (RdyE.d ⟨⟨a0, n0, c0⟩, ⟨a1, n1, c1⟩, last, acts⟩) with
    | false =>
      have HRR := hid (HR1.out (by rw [hr]; simp))
      go_wp2_with fail
      go_ret
      exact ⟨by rw [HRR.out]; rfl, HB.out⟩
    | true =>
      have HRO := hid hr
      have HRB := hid (RyB1.of hr)
      clear hr
      obtain ⟨_, g0, g1, g2, g3⟩ := HG.out
      obtain ⟨_, k0, k1, k2, k3⟩ := HC.out
      go_wp2_with fail
      clear g0 g1 g2 g3 k0 k1 k2 k3
      refine (implCommandOk_any G C _).mono ?_
      rintro e w3 ⟨rfl, B⟩
      have HG := hid (HG.out.old B)
      have HT := hid (HT.out.old B)
      have HK := hid (HK.out.old B)
      have HC := hid (HC.out.old B)
      have HB := hid (below_step HB.out B (Nat.le_refl _))
      have HX := hid (HX.out.old B)
      clear B
      cases hc : cmdOk G C with
      | false =>
        have HRR := hid (HR1.out (by rw [hc]; simp))
        go_wp2_with fail
        go_ret
        exact ⟨by rw [HRR.out]; rfl, HB.out⟩
      | true =>
        have HCO := hid hc
        have HRY := hid (readyAt_yes HTO.out HRO.out hc)
        clear hc
        obtain ⟨_, y0, y1⟩ := HK.out
        go_upto_region 5 with (fail)
        clear y0 y1
        go_loopw [9, 32] (fun v i wr => ∃ (k : Nat) (m : Int), k ≤ n0 ∧ i = .int .i64 k ∧ v = .int .i64 m ∧ Hid (maxY G T C last k = m) ∧ Hid (Below w3.heap.size w3 wr)) (fun _ i _ => n0 - (intOf i).toNat)
        case atStart => exact ⟨0, 0, Nat.zero_le _, rfl, rfl, hid rfl, hid (Below.refl _ _)⟩
        case round =>
          obtain ⟨k, m, hk, rfl, rfl, HM, HBr⟩ := hrel
          by_cases hlt : k < n0
          rotate_left
          · -- done
            have HMM : Hid (maxY G T C last last.length = m) := hid (by
              have hkn : k = n0 := by omega
              have h := HM.out
              rw [hkn, HL0.out] at h
              exact h)
            have hmb := maxY_bd (C := C) HTO.out HRB.out last.length (Nat.le_refl _)
            rw [show (RdyE.d ⟨⟨a0, n0, c0⟩, ⟨a1, n1, c1⟩, last, acts⟩).last = last from rfl, HMM.out] at hmb
            obtain ⟨_, k0, k1, k2, k3⟩ := HC.out.old HBr.out
            obtain ⟨_, y0, y1⟩ := HK.out.old HBr.out
            cases hk1 : (C.k == 1) with
            | false =>
              have hat := atY_eq (D := RdyE.d ⟨⟨a0, n0, c0⟩, ⟨a1, n1, c1⟩, last, acts⟩) HMM.out (by rw [hk1]; rfl)
              have HAT := hid (hat)
              rw [HAT.out] at HRY
              by_cases hlim : 1000000 < m
              · have HRR := hid (HRY.out.trans (if_pos hlim))
                go_wp2_with fail
                go_ret
                exact ⟨by rw [HRR.out]; rfl, HB.out.trans (HBr.out.mono HB.out.size)⟩
              · have HRR := hid (HRY.out.trans (if_neg hlim))
                go_wp2_with fail
                go_ret
                exact ⟨by rw [HRR.out]; rfl, HB.out.trans (HBr.out.mono HB.out.size)⟩
            | true =>
              by_cases h4 : n1 = 4
              rotate_left
              · have h4i : ¬ (n1 : Int) = 4 := by omega
                have h4b : ((n1 : Int) == 4) = false := by simpa using h4i
                have hat := atY_eq (D := RdyE.d ⟨⟨a0, n0, c0⟩, ⟨a1, n1, c1⟩, last, acts⟩) HMM.out (by rw [show (RdyE.d ⟨⟨a0, n0, c0⟩, ⟨a1, n1, c1⟩, last, acts⟩).acts.length = n1 from HL1.out.symm]; simp [h4])
                have HAT := hid (hat)
                rw [HAT.out] at HRY
                by_cases hlim : 1000000 < m
                · have HRR := hid (HRY.out.trans (if_pos hlim))
                  go_wp2_with fail
                  go_ret
                  exact ⟨by rw [HRR.out]; rfl, HB.out.trans (HBr.out.mono HB.out.size)⟩
                · have HRR := hid (HRY.out.trans (if_neg hlim))
                  go_wp2_with fail
                  go_ret
                  exact ⟨by rw [HRR.out]; rfl, HB.out.trans (HBr.out.mono HB.out.size)⟩
              · obtain ⟨x, hx⟩ := some_at (xs := acts) HL1.out (show 0 < n1 by omega)
                obtain ⟨b4, o4, ha4, hb4, hc4⟩ := (HX.out.old HBr.out).acts 0 x hx
                dsimp only at ha4
                rw [Nat.add_zero] at hc4
                have hxb := HRB.out.acts 0 x hx
                have hat := atY_eq4 (D := RdyE.d ⟨⟨a0, n0, c0⟩, ⟨a1, n1, c1⟩, last, acts⟩) HMM.out (by rw [hk1, show (RdyE.d ⟨⟨a0, n0, c0⟩, ⟨a1, n1, c1⟩, last, acts⟩).acts.length = n1 from HL1.out.symm]; simp [h4])
                rw [show (RdyE.d ⟨⟨a0, n0, c0⟩, ⟨a1, n1, c1⟩, last, acts⟩).acts.getD 0 0 = x from getD_of hx] at hat
                subst ha4
                have ht5 := (timOk_bd HTO.out).b5
                have sw : IntKind.i64.wrap (x + T.t5) = x + T.t5 := IntWalk.i64_in _ (by omega)
                have h4i : (n1 : Int) = 4 := by omega
                have h4b : ((n1 : Int) == 4) = true := by simpa using h4i
                have h41 : (0 : Int) < (n1 : Int) := by omega
                clear hx ht5
                have HAT4 := hid hat
                have HN4 := hid h4
                clear hat h4
                go_upto_region 12 with (fail)
                have t5 := (HT.out.old HBr.out).cs 5 _ rfl
                have tlt := (HT.out.old HBr.out).lt
                have ylt := (HK.out.old HBr.out).lt
                have hov := over_cell wr
                refine wp_region_over (by kernel_rfl) (by kernel_rfl) ?_
                repeat (go_big_quiet_step (fail))
                refine wpQuiet_nil ?_
                intro w9 B9
                have HB9 := hid (below_step HBr.out B9 (Nat.le_refl _))
                rw [show (if m < x + T.t5 then x + T.t5 else m) = mx m (x + T.t5) from rfl]
                clear hov t5 tlt ylt B9 sw k0 k1 k2 k3 y0 y1
                obtain ⟨m4, hm4⟩ : ∃ z, mx m (x + T.t5) = z := ⟨_, rfl⟩
                rw [hm4]
                have hat := HAT4.out.trans hm4
                clear hm4
                have HAT := hid (hat)
                rw [HAT.out] at HRY
                by_cases hlim : 1000000 < m4
                · have HRR := hid (HRY.out.trans (if_pos hlim))
                  go_wp2_with fail
                  go_ret
                  exact ⟨by rw [HRR.out]; rfl, HB.out.trans (HB9.out.mono HB.out.size)⟩
                · have HRR := hid (HRY.out.trans (if_neg hlim))
                  go_wp2_with fail
                  go_ret
                  exact ⟨by rw [HRR.out]; rfl, HB.out.trans (HB9.out.mono HB.out.size)⟩
          · obtain ⟨x, hx⟩ := some_at HL0.out hlt
            obtain ⟨bl, ol, hal, hbl, hcl⟩ := (HX.out.old HBr.out).last k x hx
            dsimp only at hal
            subst hal
            have hxb := HRB.out.last k x hx
            have hxb1 := hxb.1
            have hn0b : n0 ≤ 1048576 := by have h1 := HSM.out.1; have h2 := HL0.out; dsimp only at h1; omega
            have HSX := hid (show maxY G T C last (k + 1) = stepY G T C k m x by show stepY G T C k (maxY G T C last k) (last.getD k 0) = _; rw [HM.out, getD_of hx])
            have hmb := maxY_bd (C := C) HTO.out HRB.out k (by show k ≤ last.length; have := HL0.out; omega)
            rw [show maxY G T C (RdyE.d ⟨⟨some ⟨bl, ol, none⟩, n0, c0⟩, ⟨a1, n1, c1⟩, last, acts⟩).last k = m from HM.out] at hmb
            clear hx
            by_cases hneg : x < 0
            · have HV := hid (HSX.out.trans (show stepY G T C k m x = m by unfold stepY; rw [if_pos hneg]))
              go_wp2_with fail
              go_roundw
              case rel => exact ⟨k + 1, m, by omega, by go_num, rfl, HV, HBr⟩
              case measure => simp [intOf]; omega
            · have HUS := hid (cmdAt_used (hxb.2.resolve_left (by omega)))
              obtain ⟨gv, hgv⟩ : ∃ v, gapF G T (cmdAt G k) C = v := ⟨_, rfl⟩
              have hgb := gapF_bd HTO.out G (cmdAt G k) C
              rw [hgv] at hgb
              have HGV := hid hgv
              have HV := hid (HSX.out.trans (show stepY G T C k m x = mx m (x + gv) by unfold stepY; rw [if_neg hneg, hgv]))
              have hkm : k ≤ 1048576 := by have h1 := HSM.out.1; have h2 := HL0.out; show k ≤ 1048576; dsimp only at h1; omega
              have sw : IntKind.i64.wrap (x + gv) = x + gv := IntWalk.i64_in _ (by omega)
              clear hgv
              obtain ⟨_, g0, g1, g2, g3⟩ := HG.out.old HBr.out
              go_wp2_with fail
              clear g0 g1 g2 g3
              refine (commandAt_any G k _ hkm).mono ?_
              rintro e w4 ⟨rfl, B⟩
              have HB4 := hid (below_step HBr.out B (Nat.le_refl _))
              clear B
              go_upto_region 9 with (fail)
              refine wp_world (fun w5 hw => ?_)
              have HCA : Hid (BoxC w5 w4.heap.size (cmdAt G k)) := by rw [hw.out]; exact hid (BoxC.new_ _ _ _ rfl)
              have B : Below w4.heap.size w4 w5 := by rw [hw.out]; exact below_alloc _ _
              clear hw
              have HB5 := hid (below_step HB4.out B (Nat.le_refl _))
              clear B HB4
              generalize w4.heap.size = gc at HCA ⊢
              obtain ⟨_, d0, d1, d2, d3⟩ := HCA.out
              obtain ⟨_, k0, k1, k2, k3⟩ := HC.out.old HB5.out
              obtain ⟨_, g0, g1, g2, g3⟩ := HG.out.old HB5.out
              have HT5 := hid (HT.out.old HB5.out)
              go_wp2_with (refine wpList_load_tim HT5.out rfl _ (by rfl) (by rfl) ?_)
              clear d0 d1 d2 d3 k0 k1 k2 k3 g0 g1 g2 g3
              refine (implGapF_any G T (cmdAt G k) C _ HTO.out).mono ?_
              rintro e w6 ⟨rfl, B⟩
              rw [HGV.out]
              have HB6 := hid (below_step HB5.out B (Nat.le_refl _))
              clear B HB5
              go_wp2_with fail
              all_goals
                go_roundw
                case rel => exact ⟨k + 1, _, by omega, by go_num, rfl, hid (by rw [HV.out]; unfold mx; split <;> omega), HB6⟩
                case measure => simp [intOf]; omega
end Go.Proofs.Ytggjheapjklhgaa
