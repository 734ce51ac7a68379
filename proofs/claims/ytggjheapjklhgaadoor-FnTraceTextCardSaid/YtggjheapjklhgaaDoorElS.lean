/- EarliestNext: what the reference's returns. -/
import Derived.Test.YtggjheapjklhgaaDoorElP
import Derived.Test.YtggjheapjklhgaaDoorTfS
namespace Go.Proofs.YtggjheapjklhgaaDoor
open Go.RowKit
set_option maxHeartbeats 8000000 in
set_option maxRecDepth 100000 in
theorem specEarliestNext_any (G : Geo) (T : Tim) (E : EvsE) (C : Cmd) (w : World) (hE : EvsRd w E) (hn : E.n ≤ 1048576) (hcap : E.n ≤ E.c) :
    Calls Tryd.prog 46 #[.agg #[.int .i64 G.a, .int .i64 G.b, .int .i64 G.r, .int .i64 G.c], .agg #[.int .i64 T.t0, .int .i64 T.t1, .int .i64 T.t2, .int .i64 T.t3, .int .i64 T.t4, .int .i64 T.t5, .int .i64 T.t6, .int .i64 T.t7, .int .i64 T.t8, .int .i64 T.t9, .int .i64 T.t10, .int .i64 T.t11, .int .i64 T.t12, .int .i64 T.t13, .int .i64 T.t14, .int .i64 T.t15, .int .i64 T.t16], .slice E.a E.n E.c, .agg #[.int .i64 C.k, .int .i64 C.b, .int .i64 C.r, .int .i64 C.c]] w fun e w' => e = .returned (.int .i64 (earliestNext G T E.d C)) ∧ Below w.heap.size w w' := by
  obtain ⟨ea, en, ec, es⟩ := E
  have HL : Hid (en = es.length) := hid (EvsRd.len hE)
  have HX0 := hid hE
  dsimp only at hn hcap
  clear hE
  have HG0 := hid (((BoxG.new_ w 32 G rfl).old (below_alloc _ (.cells #[.int .i64 T.t0, .int .i64 T.t1, .int .i64 T.t2, .int .i64 T.t3, .int .i64 T.t4, .int .i64 T.t5, .int .i64 T.t6, .int .i64 T.t7, .int .i64 T.t8, .int .i64 T.t9, .int .i64 T.t10, .int .i64 T.t11, .int .i64 T.t12, .int .i64 T.t13, .int .i64 T.t14, .int .i64 T.t15, .int .i64 T.t16] 34))).old (below_alloc _ (.cells #[.int .i64 C.k, .int .i64 C.b, .int .i64 C.r, .int .i64 C.c] 40)))
  have HT0 := hid ((BoxT.new_ (w.alloc (.cells #[.int .i64 G.a, .int .i64 G.b, .int .i64 G.r, .int .i64 G.c] 32)) 34 T (show _ = w.heap.size + 1 by simp)).old (below_alloc _ (.cells #[.int .i64 C.k, .int .i64 C.b, .int .i64 C.r, .int .i64 C.c] 40)))
  have HC0 := hid (BoxC.new_ ((w.alloc (.cells #[.int .i64 G.a, .int .i64 G.b, .int .i64 G.r, .int .i64 G.c] 32)).alloc (.cells #[.int .i64 T.t0, .int .i64 T.t1, .int .i64 T.t2, .int .i64 T.t3, .int .i64 T.t4, .int .i64 T.t5, .int .i64 T.t6, .int .i64 T.t7, .int .i64 T.t8, .int .i64 T.t9, .int .i64 T.t10, .int .i64 T.t11, .int .i64 T.t12, .int .i64 T.t13, .int .i64 T.t14, .int .i64 T.t15, .int .i64 T.t16] 34)) 40 C (show _ = w.heap.size + 1 + 1 by simp))
  have HBB := hid (below_alloc3 w (.cells #[.int .i64 G.a, .int .i64 G.b, .int .i64 G.r, .int .i64 G.c] 32) (.cells #[.int .i64 T.t0, .int .i64 T.t1, .int .i64 T.t2, .int .i64 T.t3, .int .i64 T.t4, .int .i64 T.t5, .int .i64 T.t6, .int .i64 T.t7, .int .i64 T.t8, .int .i64 T.t9, .int .i64 T.t10, .int .i64 T.t11, .int .i64 T.t12, .int .i64 T.t13, .int .i64 T.t14, .int .i64 T.t15, .int .i64 T.t16] 34) (.cells #[.int .i64 C.k, .int .i64 C.b, .int .i64 C.r, .int .i64 C.c] 40))
  go_enter Tryd.func46, Tryd.ntmps46
  go_upto_region 1 with (fail)
  refine wp_world (fun W hw => ?_)
  have HG : Hid (BoxG W w.heap.size G) := by rw [hw.out]; exact HG0
  have HT : Hid (BoxT W (w.heap.size + 1) T) := by rw [hw.out]; exact HT0
  have HC : Hid (BoxC W (w.heap.size + 1 + 1) C) := by rw [hw.out]; exact HC0
  have HB : Hid (Below w.heap.size w W) := by rw [hw.out]; exact HBB
  have HX := hid (EvsRd.old HX0.out HB.out)
  clear hw HG0 HT0 HC0 HBB HX0
  obtain ⟨fc, hfc⟩ : ∃ c, (traceFault G T es).1 = c := ⟨_, rfl⟩
  obtain ⟨fi, hfi⟩ : ∃ c, (traceFault G T es).2 = c := ⟨_, rfl⟩
  have HFC := hid hfc
  have HFI := hid hfi
  clear hfc hfi
  obtain ⟨_, g0, g1, g2, g3⟩ := HG.out
  go_wp2_with (refine wpList_load_tim HT.out rfl _ (by rfl) (by rfl) ?_)
  clear g0 g1 g2 g3
  refine (specTraceFault_any G T ⟨ea, en, ec, es⟩ _ HX.out hn hcap).mono ?_
  rintro e w1 ⟨rfl, B⟩
  rw [show (traceFault G T (EvsE.d ⟨ea, en, ec, es⟩)).1 = fc from HFC.out, show (traceFault G T (EvsE.d ⟨ea, en, ec, es⟩)).2 = fi from HFI.out]
  have HG := hid (HG.out.old B)
  have HT := hid (HT.out.old B)
  have HC := hid (HC.out.old B)
  have HB := hid (below_step HB.out B (Nat.le_refl _))
  have HX := hid (EvsRd.old HX.out B)
  clear B
  obtain ⟨_, g0, g1, g2, g3⟩ := HG.out
  go_wp2_with fail
  clear g0 g1 g2 g3
  refine (specTraceEnd_any G ⟨ea, en, ec, es⟩ _ HX.out hn).mono ?_
  rintro e w2 ⟨⟨ra, rn, rc, rs, rp⟩, rfl, O, D, B⟩
  have HO := hid O
  have HD := hid D
  have HR8 := hid (show rs.length ≤ 8 by have h := traceEnd_len G es; rw [← show (RankE.d ⟨ra, rn, rc, rs, rp⟩) = (traceEnd G es).1 from D] at h; exact h)
  have HG := hid (HG.out.old B)
  have HT := hid (HT.out.old B)
  have HC := hid (HC.out.old B)
  have HB := hid (below_step HB.out B (Nat.le_refl _))
  have HX := hid (EvsRd.old HX.out B)
  clear O D B
  go_upto_region 3 with (fail)
  refine wp_world (fun w3 hw => ?_)
  have HV : Hid (Blk w3 w2.heap.size 75 [.slice ra rn rc, .int .i64 rp]) := by rw [hw.out]; exact hid (Blk.new _ _ _)
  have B : Below w2.heap.size w2 w3 := by rw [hw.out]; exact below_alloc _ _
  clear hw
  have HG := hid (HG.out.old B)
  have HT := hid (HT.out.old B)
  have HC := hid (HC.out.old B)
  have HB := hid (below_step HB.out B (Nat.le_refl _))
  have HX := hid (EvsRd.old HX.out B)
  have HO := hid ((HO.out.old B).reads)
  clear B
  generalize w2.heap.size = g11 at HV ⊢
  cases h0 : (fc == 0) with
  | false =>
    have h0n : (fc != 0) = true := by simp [bne, h0]
    have h0m : ¬ fc = 0 := by simpa using h0
    have HRR := hid (earliestNext_no (G := G) (T := T) (C := C) (nextB_code (by rw [HFC.out]; exact h0)))
    go_wp2_with fail
    go_ret
    exact ⟨by show _ = Ending.returned (.int .i64 (earliestNext G T es C)); rw [HRR.out]; rfl, HB.out⟩
  | true =>
    have h0n : (fc != 0) = false := by simp [bne, h0]
    have h0m : fc = 0 := by simpa using h0
    have HNF := hid (NoFault.of (HFC.out.trans h0m))
    have HF0 := hid (show ((traceFault G T es).1 == 0) = true by rw [HFC.out]; exact h0)
    subst h0m
    rw [show (traceEnd G (EvsE.d ⟨ea, en, ec, es⟩)).2 = true from HNF.out.end_]
    obtain ⟨_, g0, g1, g2, g3⟩ := HG.out
    obtain ⟨_, k0, k1, k2, k3⟩ := HC.out
    have v0 := HV.out.cell (j := 0) rfl
    have v1 := HV.out.cell (j := 1) rfl
    go_wp2_with fail
    clear g0 g1 g2 g3 k0 k1 k2 k3 v0 v1
    refine (specAllowed_any G ⟨ra, rn, rc, rs, rp⟩ C _ HO.out (by have h1 := HO.out.len; have h2 := HR8.out; dsimp only at h1; show rn ≤ _; omega)).mono ?_
    rintro e w4 ⟨rfl, B⟩
    have HG := hid (HG.out.old B)
    have HT := hid (HT.out.old B)
    have HC := hid (HC.out.old B)
    have HB := hid (below_step HB.out B (Nat.le_refl _))
    have HX := hid (EvsRd.old HX.out B)
    clear B HV
    rw [show (RankE.d ⟨ra, rn, rc, rs, rp⟩) = (traceEnd G es).1 from HD.out]
    cases hal : allowed G (traceEnd G es).1 C with
    | false =>
      have HRR := hid (earliestNext_no (G := G) (T := T) (C := C) (nextB_may hal))
      go_wp2_with fail
      go_ret
      exact ⟨by show _ = Ending.returned (.int .i64 (earliestNext G T es C)); rw [HRR.out]; rfl, HB.out⟩
    | true =>
      have HAL0 := hid hal
      clear hal
      by_cases h2 : en < 2000
      rotate_left
      · have h2i : (2000 : Int) ≤ (en : Int) := by omega
        have h2n : 2000 ≤ en := by omega
        have HRR := hid (earliestNext_no (G := G) (T := T) (C := C) (nextB_len (by rw [← HL.out]; exact h2)))
        go_wp2_with fail
        go_ret
        exact ⟨by show _ = Ending.returned (.int .i64 (earliestNext G T es C)); rw [HRR.out]; rfl, HB.out⟩
      · have h2i : ¬ (2000 : Int) ≤ (en : Int) := by omega
        have h2n : ¬ 2000 ≤ en := by omega
        have HNX := hid (nextB_yes HF0.out (show es.length < 2000 by rw [← HL.out]; exact h2) HAL0.out)
        have HTO := hid HNF.out.tim
        go_upto_region 7 with (fail)
        clear h2i h2n h2 h0 h0n
        go_loopw [13, 14] (fun v i wr => ∃ (k : Nat) (m : Int), k ≤ en ∧ i = .int .i64 k ∧ v = .int .i64 m ∧ Hid (earl G T (es.take k) C = m) ∧ Hid (Below w4.heap.size w4 wr)) (fun _ i _ => en - (intOf i).toNat)
        case atStart => exact ⟨0, 0, Nat.zero_le _, rfl, rfl, hid rfl, hid (Below.refl _ _)⟩
        case round =>
          obtain ⟨k, m, hk, rfl, rfl, HM, HBr⟩ := hrel
          by_cases hlt : k < en
          · obtain ⟨e, b1, o1, he, ha, hb1, hc0, hc1, hc2, hc3, hc4⟩ := (EvsR.old HX.out HBr.out).at_ hlt
            dsimp only at ha
            subst ha
            have hS := earl_step (G := G) (T := T) (C := C) he
            have hte := HNF.out.times e (List.mem_of_getElem? he)
            have HKE := hid (bkOk_of (HNF.out.cmds e (List.mem_of_getElem? he)))
            have HKC := hid (bkOk_of (allowed_parts HAL0.out).2.1)
            have hmb := earl_bd (G := G) (C := C) HTO.out (timesOk_take HNF.out.times k)
            rw [HM.out] at hS hmb
            obtain ⟨gv, hgv⟩ : ∃ v, gapF G T e.c C = v := ⟨_, rfl⟩
            have hgb := gapF_bd HTO.out G e.c C
            rw [hgv] at hgb hS
            have HGV := hid hgv
            have HS := hid hS
            have sw : IntKind.i64.wrap (e.t + gv) = e.t + gv := IntWalk.i64_in _ (by omega)
            have hki : (0 : Int) ≤ (k : Int) := by omega
            have hki2 : (k : Int) < (en : Int) := by omega
            clear he hgv hS
            go_upto_region 9 with (fail)
            obtain ⟨hlg, g0, g1, g2, g3⟩ := HG.out.old HBr.out
            obtain ⟨hlc, k0, k1, k2, k3⟩ := HC.out.old HBr.out
            have HT3 := hid (HT.out.old HBr.out)
            have hov := over_cell wr
            refine wp_region_over (by kernel_rfl) (by kernel_rfl) ?_
            repeat (first | (refine wpQuiet_load_tim (by rintro _ ⟨t, rfl⟩; exact HT3.out.old t.below) rfl _ (by rfl) (by rfl) ?_; simp only [Act.put, List.setIfInBounds_toArray, List.set_cons_succ, List.set_cons_zero]) | go_big_quiet_step ((go_at_call 56; exact calls_over (calls_int HGV.out (l07Gap_any G T e.c C _ HTO.out HNF.out.geo HKE.out HKC.out)))))
            refine wpQuiet_nil ?_
            intro w6 B
            have HB6 := hid (below_step HBr.out B (Nat.le_refl _))
            rw [show (if m < e.t + gv then e.t + gv else m) = mx m (e.t + gv) from rfl]
            clear hov g0 g1 g2 g3 k0 k1 k2 k3 hlg hlc B sw hte hmb hgb hc0 hc1 hc2 hc3 hc4 hb1
            go_wp2_with fail
            go_roundw
            case rel => exact ⟨k + 1, mx m (e.t + gv), by omega, by go_num, rfl, HS, HB6⟩
            case measure => simp [intOf]; omega
          · have hkn : k = en := by omega
            have hv : earl G T es C = m := by rw [← HM.out, List.take_of_length_le (by rw [← HL.out]; omega)]
            have HEM := hid hv
            clear hkn hv HM
            have HBW := hid (HB.out.trans (HBr.out.mono HB.out.size))
            have HX5 := hid (EvsRd.old HX.out HBr.out)
            go_wp2_with fail
            refine (specActTimes_any ⟨ea, en, ec, es⟩ _ HX5.out hn).mono ?_
            rintro e w5 ⟨aa, am, ac, rfl, O, B⟩
            have HAM := hid O.length
            have HAR := hid O.reads
            have HB5 := hid (below_step HBW.out B (Nat.le_refl _))
            have HBr5 := hid (below_step HBr.out B (Nat.le_refl _))
            clear O B
            have hml : am ≤ 1048576 := by
              have h1 := actsOf_len es
              have h2 := HAM.out
              have h3 := HL.out
              dsimp only at h2
              omega
            obtain ⟨_, k0, k1, k2, k3⟩ := HC.out.old HBr5.out
            cases hk1 : (C.k == 1) with
            | false =>
              have HAT := hid (earlAll_no hk1 HEM.out)
              have HRY := hid (earliestNext_yes HNX.out)
              rw [HAT.out] at HRY
              by_cases hlim : 1000000 < m
              · have HRR := hid (HRY.out.trans (if_pos hlim))
                go_wp2_with fail
                go_ret
                exact ⟨by show _ = Ending.returned (.int .i64 (earliestNext G T es C)); rw [HRR.out]; rfl, HB5.out⟩
              · have HRR := hid (HRY.out.trans (if_neg hlim))
                go_wp2_with fail
                go_ret
                exact ⟨by show _ = Ending.returned (.int .i64 (earliestNext G T es C)); rw [HRR.out]; rfl, HB5.out⟩
            | true =>
              have HFB := hid (fawT_bd HTO.out HNF.out.times)
              have HEB := hid (earl_bd (C := C) (G := G) HTO.out HNF.out.times)
              by_cases h4 : am < 4
              · have h4i : ¬ (4 : Int) ≤ (am : Int) := by omega
                have h4n : ¬ 4 ≤ am := by omega
                have HAT0 := hid ((earlAll_yes hk1 HEM.out (fawT_few (T := T) (es := es) (by have h := HAM.out; dsimp only at h; omega))).trans (show mx m 0 = m by have h := HEB.out; rw [HEM.out] at h; unfold mx; rw [if_neg (by omega)]))
                have HAT := hid (HAT0.out)
                have HRY := hid (earliestNext_yes HNX.out)
                rw [HAT.out] at HRY
                by_cases hlim : 1000000 < m
                · have HRR := hid (HRY.out.trans (if_pos hlim))
                  go_wp2_with fail
                  go_ret
                  exact ⟨by show _ = Ending.returned (.int .i64 (earliestNext G T es C)); rw [HRR.out]; rfl, HB5.out⟩
                · have HRR := hid (HRY.out.trans (if_neg hlim))
                  go_wp2_with fail
                  go_ret
                  exact ⟨by show _ = Ending.returned (.int .i64 (earliestNext G T es C)); rw [HRR.out]; rfl, HB5.out⟩
              · have h4i : (4 : Int) ≤ (am : Int) := by omega
                have h4n : 4 ≤ am := by omega
                obtain ⟨j, hj⟩ : ∃ j, am = j + 4 := ⟨am - 4, by omega⟩
                obtain ⟨x, hx⟩ := some_at (xs := actsOf es) HAM.out (show j < am by omega)
                obtain ⟨b4, o4, ha4, hb4, hc4⟩ := HAR.out j x hx
                have hxb := actsOf_times HNF.out.times x (List.mem_of_getElem? hx)
                have ht5 := (timOk_bd HTO.out).b5
                have HVF := hid (show fawT T es = x + T.t5 by
                  have h := HAM.out
                  dsimp only at h
                  unfold fawT
                  rw [if_neg (by omega), ← h, show am - 4 = j by omega, List.getD_eq_getElem?_getD, hx]; rfl)
                have s1 : IntKind.i64.wrap ((am : Int) - 4) = (j : Int) := by rw [IntWalk.i64_in _ (by omega)]; omega
                have s2 : IntKind.i64.wrap (x + T.t5) = x + T.t5 := IntWalk.i64_in _ (by omega)
                have hj0 : (0 : Int) ≤ (j : Int) := by omega
                have hj1 : (j : Int) < (am : Int) := by omega
                subst ha4
                clear hx hj h4 ht5 hxb
                go_upto_region 12 with (fail)
                clear k0 k1 k2 k3
                have t5 := (HT.out.old HBr5.out).cs 5 _ rfl
                have tlt := (HT.out.old HBr5.out).lt
                have hov := over_cell w5
                refine wp_region_over (by kernel_rfl) (by kernel_rfl) ?_
                repeat (go_big_quiet_step (fail))
                refine wpQuiet_nil ?_
                intro w7 B
                have HB7 := hid (below_step HB5.out B (Nat.le_refl _))
                rw [show (if m < x + T.t5 then x + T.t5 else m) = mx m (x + T.t5) from rfl]
                clear hov t5 tlt B s1 s2 hc4 hb4 hj0 hj1 h4i h4n
                obtain ⟨m4, hm4⟩ : ∃ z, mx m (x + T.t5) = z := ⟨_, rfl⟩
                rw [hm4]
                have HAT4 := hid ((earlAll_yes hk1 HEM.out HVF.out).trans hm4)
                clear hm4
                have HAT := hid (HAT4.out)
                have HRY := hid (earliestNext_yes HNX.out)
                rw [HAT.out] at HRY
                by_cases hlim : 1000000 < m4
                · have HRR := hid (HRY.out.trans (if_pos hlim))
                  go_wp2_with fail
                  go_ret
                  exact ⟨by show _ = Ending.returned (.int .i64 (earliestNext G T es C)); rw [HRR.out]; rfl, HB7.out⟩
                · have HRR := hid (HRY.out.trans (if_neg hlim))
                  go_wp2_with fail
                  go_ret
                  exact ⟨by show _ = Ending.returned (.int .i64 (earliestNext G T es C)); rw [HRR.out]; rfl, HB7.out⟩
end Go.Proofs.YtggjheapjklhgaaDoor
