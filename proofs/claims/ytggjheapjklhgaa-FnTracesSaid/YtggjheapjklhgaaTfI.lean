/- TraceFault: what the program's returns. -/
import Derived.Test.YtggjheapjklhgaaTfP
namespace Go.Proofs.Ytggjheapjklhgaa
open Go.RowKit
set_option maxHeartbeats 80000000 in
set_option maxRecDepth 100000 in
theorem implTraceFault_any (G : Geo) (T : Tim) (E : EvsE) (w : World) (hE : EvsRd w E) (hn : E.n ≤ 1048576) (hcap : E.n ≤ E.c) :
    Calls Try.prog 56 #[.agg #[.int .i64 G.a, .int .i64 G.b, .int .i64 G.r, .int .i64 G.c], .agg #[.int .i64 T.t0, .int .i64 T.t1, .int .i64 T.t2, .int .i64 T.t3, .int .i64 T.t4, .int .i64 T.t5, .int .i64 T.t6, .int .i64 T.t7, .int .i64 T.t8, .int .i64 T.t9, .int .i64 T.t10, .int .i64 T.t11, .int .i64 T.t12, .int .i64 T.t13, .int .i64 T.t14, .int .i64 T.t15, .int .i64 T.t16], .slice E.a E.n E.c] w fun e w' => e = .returned (.tuple #[.int .i64 (traceFault G T E.d).1, .int .i64 (traceFault G T E.d).2]) ∧ Below w.heap.size w w' := by
  obtain ⟨ea, en, ec, es⟩ := E
  have HX := hid hE
  have HL : Hid (en = es.length) := hid (EvsRd.len hE)
  dsimp only at hn hcap
  clear hE
  have HG0 := hid ((BoxG.new_ w 25 G rfl).old (below_alloc _ (.cells #[.int .i64 T.t0, .int .i64 T.t1, .int .i64 T.t2, .int .i64 T.t3, .int .i64 T.t4, .int .i64 T.t5, .int .i64 T.t6, .int .i64 T.t7, .int .i64 T.t8, .int .i64 T.t9, .int .i64 T.t10, .int .i64 T.t11, .int .i64 T.t12, .int .i64 T.t13, .int .i64 T.t14, .int .i64 T.t15, .int .i64 T.t16] 27)))
  have HT0 := hid (BoxT.new_ (w.alloc (.cells #[.int .i64 G.a, .int .i64 G.b, .int .i64 G.r, .int .i64 G.c] 25)) 27 T (show _ = w.heap.size + 1 by simp))
  have HBB := hid (below_alloc2 w (.cells #[.int .i64 G.a, .int .i64 G.b, .int .i64 G.r, .int .i64 G.c] 25) (.cells #[.int .i64 T.t0, .int .i64 T.t1, .int .i64 T.t2, .int .i64 T.t3, .int .i64 T.t4, .int .i64 T.t5, .int .i64 T.t6, .int .i64 T.t7, .int .i64 T.t8, .int .i64 T.t9, .int .i64 T.t10, .int .i64 T.t11, .int .i64 T.t12, .int .i64 T.t13, .int .i64 T.t14, .int .i64 T.t15, .int .i64 T.t16] 27))
  go_enter Try.func56, Try.ntmps56
  go_wp2_with fail
  refine (implGeometryOk_any G _).mono ?_
  rintro e w1 ⟨rfl, B⟩
  have HG := hid (HG0.out.old B)
  have HT := hid (HT0.out.old B)
  have HB := hid (below_step HBB.out B (Nat.le_refl _))
  clear B HG0 HT0 HBB
  cases hg : gOk G with
  | false =>
    have HF := hid (traceFault_geo (T := T) (es := es) hg)
    go_wp2_with fail
    go_ret2
    exact ⟨by show _ = Ending.returned (.tuple #[.int .i64 (traceFault G T es).1, .int .i64 (traceFault G T es).2]); rw [HF.out]; rfl, HB.out⟩
  | true =>
    have HGO := hid hg
    clear hg
    go_wp2_with (refine wpList_load_timW HT.out _ rfl (by rfl) (by rfl) ?_)
    refine (implTimingOk_any T _).mono ?_
    rintro e w2 ⟨rfl, B⟩
    have HG := hid (HG.out.old B)
    have HT := hid (HT.out.old B)
    have HB := hid (below_step HB.out B (Nat.le_refl _))
    clear B
    cases ht : timOk T with
    | false =>
      have HF := hid (traceFault_tim (G := G) (es := es) ht)
      go_wp2_with fail
      go_ret2
      exact ⟨by show _ = Ending.returned (.tuple #[.int .i64 (traceFault G T es).1, .int .i64 (traceFault G T es).2]); rw [HF.out]; rfl, HB.out⟩
    | true =>
      have HTO := hid ht
      clear ht
      by_cases h2 : en ≤ 2000
      rotate_left
      · have h2i : (2000 : Int) < (en : Int) := by omega
        have HF := hid (traceFault_len (G := G) (T := T) (es := es) (by rw [← HL.out]; exact h2))
        go_wp2_with fail
        go_ret2
        exact ⟨by show _ = Ending.returned (.tuple #[.int .i64 (traceFault G T es).1, .int .i64 (traceFault G T es).2]); rw [HF.out]; rfl, HB.out⟩
      · have h2i : ¬ (2000 : Int) < (en : Int) := by omega
        have HTF := hid (traceFault_yes HGO.out HTO.out (es := es) (by rw [← HL.out]; exact h2))
        have HX := hid (EvsRd.old HX.out HB.out)
        obtain ⟨_, g0, g1, g2, g3⟩ := HG.out
        go_wp2_with fail
        clear g0 g1 g2 g3 h2i
        refine (implRankNew_any G _).mono ?_
        rintro e w3 ⟨⟨na, nn, nc, ns, np⟩, rfl, O, D, B⟩
        have HO1 := hid O
        have HD1 := hid D
        have HB1 := hid B
        clear O D B
        go_upto_region 4 with (fail)
        refine wp_world (fun w4 hw => ?_)
        have HV0 : Hid (Blk w4 w3.heap.size 41 [.slice na nn nc, .int .i64 np]) := by rw [hw.out]; exact hid (Blk.new _ _ _)
        have B : Below w3.heap.size w3 w4 := by rw [hw.out]; exact below_alloc _ _
        clear hw
        obtain ⟨g8, hg8⟩ : ∃ g, w3.heap.size = g := ⟨_, rfl⟩
        have HO0 := hid (HO1.out.old B)
        have HB0 := hid (below_step HB1.out B (Nat.le_refl _))
        have HG8 : Hid (w2.heap.size ≤ g8 ∧ g8 < w4.heap.size) := hid (by have h1 := HB1.out.size; have h2 := HV0.out.lt; rw [hg8] at h1 h2; exact ⟨h1, h2⟩)
        rw [hg8] at HV0 HO0 ⊢
        clear hg8 HO1 HB1 B
        have HI0 : Hid (FltI G T es 0 (RankE.d ⟨na, nn, nc, ns, np⟩)) := hid (by rw [HD1.out]; exact FltI.start HGO.out)
        have HN8 : Hid (ns.length ≤ 8) := hid (by have h := rankNew_len G; rw [← HD1.out] at h; exact h)
        have HO0 := hid (OwnF.up HO0.out (Nat.le_of_lt HG8.out.2) (Nat.le_refl _))
        go_upto_region 5 with (fail)
        go_loopw [30] (fun i wr => ∃ (k : Nat) (R : RankE), k ≤ en ∧ i = .int .i64 k ∧ Hid (Blk wr g8 41 [.slice R.a R.n R.c, .int .i64 R.p]) ∧ Hid (OwnR wr w2.heap.size wr.heap.size R) ∧ Hid (FltI G T es k R.d) ∧ Hid (R.es.length ≤ 8) ∧ Hid (Below w2.heap.size w2 wr) ∧ Hid (w4.heap.size ≤ wr.heap.size)) (fun i _ => en - (intOf i).toNat)
        case atStart => exact ⟨0, ⟨na, nn, nc, ns, np⟩, Nat.zero_le _, rfl, HV0, HO0, HI0, HN8, HB0, hid (Nat.le_refl _)⟩
        case round =>
          clear HV0 HO0 HI0 HN8 HB0
          obtain ⟨k, ⟨ra, rn, rc, rs, rp⟩, hk, rfl, HV, HO, HI, HR8, HBr, HWS⟩ := hrel
          dsimp only at HV HO HI HR8
          by_cases hlt : k < en
          rotate_left
          · have hkn : k = en := by omega
            have hd := HI.out
            rw [hkn, HL.out] at hd
            have HRR := hid (HTF.out.trans hd.done)
            clear hd hkn
            go_wp2_with fail
            go_ret2
            exact ⟨by show _ = Ending.returned (.tuple #[.int .i64 (traceFault G T es).1, .int .i64 (traceFault G T es).2]); rw [HRR.out]; rfl, HB.out.trans (HBr.out.mono HB.out.size)⟩
          · obtain ⟨e, b1, o1, he, ha, hb1, hc0, hc1, hc2, hc3, hc4⟩ := (EvsR.old HX.out HBr.out).at_ hlt
            dsimp only at ha
            subst ha
            have HE := hid he
            have HRN : Hid (rn = rs.length) := hid HO.out.reads.len
            clear he
            go_upto_region 7 with (fail)
            refine wp_world (fun w6 hw => ?_)
            have HEV : Hid (Blk w6 wr.heap.size 58 [.int .i64 e.t, .int .i64 e.c.k, .int .i64 e.c.b, .int .i64 e.c.r, .int .i64 e.c.c]) := by rw [hw.out]; exact hid (Blk.new _ _ _)
            have B : Below wr.heap.size wr w6 := by rw [hw.out]; exact below_alloc _ _
            clear hw hc0 hc1 hc2 hc3 hc4 hb1
            have HV := hid (HV.out.old B)
            have HO := hid ((HO.out.old B).up B.size (Nat.le_refl _))
            
            have HB6 := hid (below_step HBr.out B (Nat.le_refl _))
            have HGE : Hid (w4.heap.size ≤ wr.heap.size ∧ g8 < wr.heap.size) := hid (by have h1 := HWS.out; have h2 := HG8.out.2; omega)
            clear B HBr
            generalize wr.heap.size = ge at HEV HGE ⊢
            have hki : (0 : Int) ≤ (k : Int) := by omega
            have hki2 : (k : Int) < (en : Int) := by omega
            have hkc : k ≤ ec := by omega
            have hkci : (k : Int) ≤ (ec : Int) := by omega
            cases hck : cmdOk G e.c with
            | false =>
              have HFO := hid (show formB G (es.take k) e = false by unfold formB; rw [hck]; rfl)
              have e0 := HEV.out.cell (j := 0) rfl
              have e1 := HEV.out.cell (j := 1) rfl
              have e2 := HEV.out.cell (j := 2) rfl
              have e3 := HEV.out.cell (j := 3) rfl
              have e4 := HEV.out.cell (j := 4) rfl
              have hle := HEV.out.lt
              obtain ⟨hlg, g0, g1, g2, g3⟩ := HG.out.old HB6.out
              have hov := over_cell w6
              refine wp_region_over (by kernel_rfl) (by kernel_rfl) ?_
              repeat (go_big_quiet_step ((first | (go_at_call 84; exact calls_over (calls_boo2 hck (implCommandOk_any G e.c _))) | (go_at_call 81; with_reducible exact calls_over_same (between_of htk)))))
              refine wpQuiet_nil ?_
              intro w7 B
              have HB7 := hid (below_step HB6.out B (Nat.le_refl _))
              have HV := hid (HV.out.old B)
              have HEV := hid (HEV.out.old B)
              have HO := hid ((HO.out.old B).up B.size (Nat.le_refl _))
              
              clear B hov e0 e1 e2 e3 e4 g0 g1 g2 g3 hle hlg HB6
              have HRR := hid (HTF.out.trans (HI.out.stop HE.out (chk_form HFO.out) (by decide)))
              go_wp2_with fail
              go_ret2
              exact ⟨by show _ = Ending.returned (.tuple #[.int .i64 (traceFault G T es).1, .int .i64 (traceFault G T es).2]); rw [HRR.out]; rfl, HB.out.trans (HB7.out.mono HB.out.size)⟩
            | true =>
              have HCK := hid hck
              cases htk : inB e.t 0 1000000 with
              | false =>
                have HFO := hid (show formB G (es.take k) e = false by unfold formB; rw [htk]; simp)
                have e0 := HEV.out.cell (j := 0) rfl
                have e1 := HEV.out.cell (j := 1) rfl
                have e2 := HEV.out.cell (j := 2) rfl
                have e3 := HEV.out.cell (j := 3) rfl
                have e4 := HEV.out.cell (j := 4) rfl
                have hle := HEV.out.lt
                obtain ⟨hlg, g0, g1, g2, g3⟩ := HG.out.old HB6.out
                have hov := over_cell w6
                refine wp_region_over (by kernel_rfl) (by kernel_rfl) ?_
                repeat (go_big_quiet_step ((first | (go_at_call 84; exact calls_over (calls_boo2 hck (implCommandOk_any G e.c _))) | (go_at_call 81; with_reducible exact calls_over_same (between_of htk)))))
                refine wpQuiet_nil ?_
                intro w7 B
                have HB7 := hid (below_step HB6.out B (Nat.le_refl _))
                have HV := hid (HV.out.old B)
                have HEV := hid (HEV.out.old B)
                have HO := hid ((HO.out.old B).up B.size (Nat.le_refl _))
                
                clear B hov e0 e1 e2 e3 e4 g0 g1 g2 g3 hle hlg HB6
                have HRR := hid (HTF.out.trans (HI.out.stop HE.out (chk_form HFO.out) (by decide)))
                go_wp2_with fail
                go_ret2
                exact ⟨by show _ = Ending.returned (.tuple #[.int .i64 (traceFault G T es).1, .int .i64 (traceFault G T es).2]); rw [HRR.out]; rfl, HB.out.trans (HB7.out.mono HB.out.size)⟩
              | true =>
                have HTK := hid (inB_iff.1 htk)
                have htb := inB_iff.1 htk
                by_cases hk0 : k = 0
                · have hkz : ¬ (0 : Int) < (k : Int) := by omega
                  have hkzn : ¬ 0 < k := by omega
                  have hkd : decide ((0 : Int) < (k : Int)) = false := by simpa using hkz
                  have HFO := hid (show formB G (es.take k) e = true by unfold formB; rw [hck, htk, hk0]; rfl)
                  clear hk0
                  have e0 := HEV.out.cell (j := 0) rfl
                  have e1 := HEV.out.cell (j := 1) rfl
                  have e2 := HEV.out.cell (j := 2) rfl
                  have e3 := HEV.out.cell (j := 3) rfl
                  have e4 := HEV.out.cell (j := 4) rfl
                  have hle := HEV.out.lt
                  obtain ⟨hlg, g0, g1, g2, g3⟩ := HG.out.old HB6.out
                  have hov := over_cell w6
                  refine wp_region_over (by kernel_rfl) (by kernel_rfl) ?_
                  repeat (go_big_quiet_step ((first | (go_at_call 84; exact calls_over (calls_boo2 hck (implCommandOk_any G e.c _))) | (go_at_call 81; with_reducible exact calls_over_same (between_of htk)))))
                  refine wpQuiet_nil ?_
                  intro w7 B
                  have HB7 := hid (below_step HB6.out B (Nat.le_refl _))
                  have HV := hid (HV.out.old B)
                  have HEV := hid (HEV.out.old B)
                  have HO := hid ((HO.out.old B).up B.size (Nat.le_refl _))
                  
                  clear B hov e0 e1 e2 e3 e4 g0 g1 g2 g3 hle hlg HB6
                  have e1 := HEV.out.cell (j := 1) rfl
                  have e2 := HEV.out.cell (j := 2) rfl
                  have e3 := HEV.out.cell (j := 3) rfl
                  have e4 := HEV.out.cell (j := 4) rfl
                  have v0 := HV.out.cell (j := 0) rfl
                  have v1 := HV.out.cell (j := 1) rfl
                  obtain ⟨_, g0, g1, g2, g3⟩ := HG.out.old HB7.out
                  go_wp2_with fail
                  clear e1 e2 e3 e4 v0 v1 g0 g1 g2 g3
                  refine (implRankAfter_any G ⟨ra, rn, rc, rs, rp⟩ e.c _ HO.out.reads (by have h1 := HRN.out; have h2 := HR8.out; show rn ≤ _; omega)).mono ?_
                  rintro e' w8 ⟨⟨xa, xn, xc, xs, xp⟩, rfl, O, D, B⟩
                  rw [show allowed G (RankE.d ⟨ra, rn, rc, rs, rp⟩) e.c = may (RankE.d ⟨ra, rn, rc, rs, rp⟩) e.c from allowed_may HI.out.ok HCK.out]
                  have HAL := hid (allowed_may (C := e.c) HI.out.ok HCK.out)
                  have HV := hid (HV.out.old B)
                  have HEV := hid (HEV.out.old B)
                  have HO2 := hid (OwnF.mono O (show w2.heap.size ≤ w7.heap.size from HB7.out.size))
                  have HD2 := hid D
                  have HB8 := hid (below_step HB7.out B (Nat.le_refl _))
                  clear O D B HO HB7
                  go_upto_region 10 with (fail)
                  refine wp_world (fun w9 hw => ?_)
                  have HX9 : Hid (Blk w9 w8.heap.size 41 [.slice xa xn xc, .int .i64 xp]) := by rw [hw.out]; exact hid (Blk.new _ _ _)
                  have B : Below w8.heap.size w8 w9 := by rw [hw.out]; exact below_alloc _ _
                  clear hw
                  have HV := hid (HV.out.old B)
                  have HEV := hid (HEV.out.old B)
                  have HO := hid (OwnF.up (OwnF.old HO2.out B) B.size (Nat.le_refl _))
                  have HB9 := hid (below_step HB8.out B (Nat.le_refl _))
                  clear B HO2 HB8
                  generalize w8.heap.size = g9 at HX9 ⊢
                  cases hm : may (RankE.d ⟨ra, rn, rc, rs, rp⟩) e.c with
                  | false =>
                    have HRR := hid (HTF.out.trans (HI.out.stop HE.out (chk_may HFO.out hm) (by decide)))
                    go_wp2_with fail
                    go_ret2
                    exact ⟨by show _ = Ending.returned (.tuple #[.int .i64 (traceFault G T es).1, .int .i64 (traceFault G T es).2]); rw [HRR.out]; rfl, HB.out.trans (HB9.out.mono HB.out.size)⟩
                  | true =>
                    have HM := hid hm
                    have HDD := hid (show (⟨xs, xp⟩ : RkD) = doR (RankE.d ⟨ra, rn, rc, rs, rp⟩) e.c from HD2.out.trans (rankAfter_yes (HAL.out.trans hm)))
                    have HRS := hid (show xs.length = rs.length by have h := congrArg (fun d => d.banks.length) HDD.out; rw [doR_len] at h; exact h)
                    clear hm HD2
                    have HXR := hid (EvsRd.take (EvsRd.old HX.out HB9.out) (k := k) hk)
                    have HTT := hid HI.out.times
                    obtain ⟨ev, hev⟩ : ∃ v, earl G T (es.take k) e.c = v := ⟨_, rfl⟩
                    have HEL := hid hev
                    clear hev
                    go_upto_region 12 with (fail)
                    have e0 := HEV.out.cell (j := 0) rfl
                    have e1 := HEV.out.cell (j := 1) rfl
                    have e2 := HEV.out.cell (j := 2) rfl
                    have e3 := HEV.out.cell (j := 3) rfl
                    have e4 := HEV.out.cell (j := 4) rfl
                    have hle := HEV.out.lt
                    obtain ⟨hlg, g0, g1, g2, g3⟩ := HG.out.old HB9.out
                    have HT3 := hid (HT.out.old HB9.out)
                    have hov := over_cell w9
                    refine wp_region_over (by kernel_rfl) (by kernel_rfl) ?_
                    repeat (first | (refine wpQuiet_load_tim (by rintro _ ⟨t, rfl⟩; exact HT3.out.old t.below) rfl _ (by rfl) (by rfl) ?_; simp only [Act.put, List.setIfInBounds_toArray, List.set_cons_succ, List.set_cons_zero]) | go_big_quiet_step ((go_at_call 82; exact calls_over (calls_int HEL.out (earliest_any G T ⟨some ⟨b1, o1, none⟩, k, ec, es.take k⟩ e.c _ (EvsRd.old HXR.out (Over.below _)) (Nat.le_trans (Nat.le_of_lt hlt) hn) HTO.out HTT.out)))))
                    refine wpQuiet_nil ?_
                    intro w10 B
                    have HB10 := hid (below_step HB9.out B (Nat.le_refl _))
                    have HV := hid (HV.out.old B)
                    have HEV := hid (HEV.out.old B)
                    have HX9 := hid (HX9.out.old B)
                    have HO := hid ((HO.out.old B).up B.size (Nat.le_refl _))
                    clear B hov e0 e1 e2 e3 e4 g0 g1 g2 g3 hle hlg HB9 HT3 HXR
                    cases hce : decide (e.t < ev) with
                    | true =>
                      have HCE := hid (show decide (e.t < earl G T (es.take k) e.c) = true by rw [HEL.out]; exact hce)
                      have HRR := hid (HTF.out.trans (HI.out.stop HE.out (chk_gap HFO.out HM.out HCE.out) (by decide)))
                      go_wp2_with fail
                      go_ret2
                      exact ⟨by show _ = Ending.returned (.tuple #[.int .i64 (traceFault G T es).1, .int .i64 (traceFault G T es).2]); rw [HRR.out]; rfl, HB.out.trans (HB10.out.mono HB.out.size)⟩
                    | false =>
                      have HCE := hid (show decide (e.t < earl G T (es.take k) e.c) = false by rw [HEL.out]; exact hce)
                      go_upto_region 14 with (fail)
                      cases hk1 : (e.c.k == 1) with
                      | false =>
                        have HFW := hid (show (e.c.k == 1 && decide (e.t < fawT T (es.take k))) = false by rw [hk1]; rfl)
                        have e0 := HEV.out.cell (j := 0) rfl
                        have e1 := HEV.out.cell (j := 1) rfl
                        have hle := HEV.out.lt
                        have HT3 := hid (HT.out.old HB10.out)
                        have hov := over_cell w10
                        refine wp_region_over (by kernel_rfl) (by kernel_rfl) ?_
                        repeat (go_big_quiet_step (fail))
                        refine wpQuiet_nil ?_
                        intro w11 B
                        have HB11 := hid (below_step HB10.out B (Nat.le_refl _))
                        have HV := hid (HV.out.old B)
                        have HEV := hid (HEV.out.old B)
                        have HX9 := hid (HX9.out.old B)
                        have HO := hid ((HO.out.old B).up B.size (Nat.le_refl _))
                        clear B hov e0 e1 hle HT3 HB10
                        have HI2 := hid (HI.out.step HE.out HFO.out HM.out (chk_ok HFO.out HM.out HCE.out HFW.out))
                        have x0 := HX9.out.cell (j := 0) rfl
                        have x1 := HX9.out.cell (j := 1) rfl
                        have v0 := HV.out.cell (j := 0) rfl
                        have v1 := HV.out.cell (j := 1) rfl
                        have f0 := HV.out.frozen 0
                        have f1 := HV.out.frozen 1
                        have HST := hid (rank_stored (R := ⟨xa, xn, xc, xs, xp⟩) HV.out HO.out HG8.out.1)
                        dsimp only at HST
                        go_upto_region 17 with (fail)
                        refine wp_world (fun w12 hw => ?_)
                        have HST2 : Hid (Blk w12 g8 41 [.slice xa xn xc, .int .i64 xp] ∧ OwnR w12 w2.heap.size w12.heap.size ⟨xa, xn, xc, xs, xp⟩ ∧ Below w2.heap.size w11 w12) := by rw [hw.out]; exact hid ⟨HST.out.1, HST.out.2.1, HST.out.2.2.1⟩
                        clear hw HST x0 x1 v0 v1 f0 f1
                        go_wp2_with fail
                        go_roundw
                        case rel => exact ⟨k + 1, ⟨xa, xn, xc, xs, xp⟩, by omega, by go_num, hid HST2.out.1, hid HST2.out.2.1, hid (by rw [show (RankE.d ⟨xa, xn, xc, xs, xp⟩) = _ from HDD.out]; exact HI2.out), hid (by show xs.length ≤ 8; rw [HRS.out]; exact HR8.out), hid (HB11.out.trans HST2.out.2.2), hid (by have h1 := HGE.out.1; have h2 := HEV.out.lt; have h3 := HST2.out.2.2.size; omega)⟩
                        case measure => simp [intOf]; omega
                      | true =>
                        have HXR := hid (EvsRd.take (EvsRd.old HX.out HB10.out) (k := k) hk)
                        obtain ⟨fv, hfv⟩ : ∃ v, fawT T (es.take k) = v := ⟨_, rfl⟩
                        have HFE := hid hfv
                        clear hfv
                        cases hfd : decide (e.t < fv) with
                        | true =>
                          have HFW := hid (show (e.c.k == 1 && decide (e.t < fawT T (es.take k))) = true by rw [hk1, HFE.out, hfd]; rfl)
                          have hfp : e.t < fv := by simpa using hfd
                          have e0 := HEV.out.cell (j := 0) rfl
                          have e1 := HEV.out.cell (j := 1) rfl
                          have hle := HEV.out.lt
                          have HT3 := hid (HT.out.old HB10.out)
                          have hov := over_cell w10
                          refine wp_region_over (by kernel_rfl) (by kernel_rfl) ?_
                          repeat (first | (refine wpQuiet_load_timW (by rintro _ ⟨t, rfl⟩; exact HT3.out.old t.below) _ (by rfl) (by rfl) (by rfl) ?_; simp only [Act.put, List.setIfInBounds_toArray, List.set_cons_succ, List.set_cons_zero]) | go_big_quiet_step ((go_at_call 83; exact calls_over (calls_int HFE.out (fawTime_any T ⟨some ⟨b1, o1, none⟩, k, ec, es.take k⟩ _ (EvsRd.old HXR.out (Over.below _)) (Nat.le_trans (Nat.le_of_lt hlt) hn) HTO.out HTT.out)))))
                          refine wpQuiet_nil ?_
                          intro w11 B
                          have HB11 := hid (below_step HB10.out B (Nat.le_refl _))
                          have HV := hid (HV.out.old B)
                          have HEV := hid (HEV.out.old B)
                          have HX9 := hid (HX9.out.old B)
                          have HO := hid ((HO.out.old B).up B.size (Nat.le_refl _))
                          clear B hov e0 e1 hle HT3 HB10
                          have HRR := hid (HTF.out.trans (HI.out.stop HE.out (chk_faw HFO.out HM.out HCE.out HFW.out) (by decide)))
                          go_wp2_with fail
                          go_ret2
                          exact ⟨by show _ = Ending.returned (.tuple #[.int .i64 (traceFault G T es).1, .int .i64 (traceFault G T es).2]); rw [HRR.out]; rfl, HB.out.trans (HB11.out.mono HB.out.size)⟩
                        | false =>
                          have HFW := hid (show (e.c.k == 1 && decide (e.t < fawT T (es.take k))) = false by rw [hk1, HFE.out, hfd]; rfl)
                          have hfp : ¬ e.t < fv := by simpa using hfd
                          have e0 := HEV.out.cell (j := 0) rfl
                          have e1 := HEV.out.cell (j := 1) rfl
                          have hle := HEV.out.lt
                          have HT3 := hid (HT.out.old HB10.out)
                          have hov := over_cell w10
                          refine wp_region_over (by kernel_rfl) (by kernel_rfl) ?_
                          repeat (first | (refine wpQuiet_load_timW (by rintro _ ⟨t, rfl⟩; exact HT3.out.old t.below) _ (by rfl) (by rfl) (by rfl) ?_; simp only [Act.put, List.setIfInBounds_toArray, List.set_cons_succ, List.set_cons_zero]) | go_big_quiet_step ((go_at_call 83; exact calls_over (calls_int HFE.out (fawTime_any T ⟨some ⟨b1, o1, none⟩, k, ec, es.take k⟩ _ (EvsRd.old HXR.out (Over.below _)) (Nat.le_trans (Nat.le_of_lt hlt) hn) HTO.out HTT.out)))))
                          refine wpQuiet_nil ?_
                          intro w11 B
                          have HB11 := hid (below_step HB10.out B (Nat.le_refl _))
                          have HV := hid (HV.out.old B)
                          have HEV := hid (HEV.out.old B)
                          have HX9 := hid (HX9.out.old B)
                          have HO := hid ((HO.out.old B).up B.size (Nat.le_refl _))
                          clear B hov e0 e1 hle HT3 HB10
                          have HI2 := hid (HI.out.step HE.out HFO.out HM.out (chk_ok HFO.out HM.out HCE.out HFW.out))
                          have x0 := HX9.out.cell (j := 0) rfl
                          have x1 := HX9.out.cell (j := 1) rfl
                          have v0 := HV.out.cell (j := 0) rfl
                          have v1 := HV.out.cell (j := 1) rfl
                          have f0 := HV.out.frozen 0
                          have f1 := HV.out.frozen 1
                          have HST := hid (rank_stored (R := ⟨xa, xn, xc, xs, xp⟩) HV.out HO.out HG8.out.1)
                          dsimp only at HST
                          go_upto_region 17 with (fail)
                          refine wp_world (fun w12 hw => ?_)
                          have HST2 : Hid (Blk w12 g8 41 [.slice xa xn xc, .int .i64 xp] ∧ OwnR w12 w2.heap.size w12.heap.size ⟨xa, xn, xc, xs, xp⟩ ∧ Below w2.heap.size w11 w12) := by rw [hw.out]; exact hid ⟨HST.out.1, HST.out.2.1, HST.out.2.2.1⟩
                          clear hw HST x0 x1 v0 v1 f0 f1
                          go_wp2_with fail
                          go_roundw
                          case rel => exact ⟨k + 1, ⟨xa, xn, xc, xs, xp⟩, by omega, by go_num, hid HST2.out.1, hid HST2.out.2.1, hid (by rw [show (RankE.d ⟨xa, xn, xc, xs, xp⟩) = _ from HDD.out]; exact HI2.out), hid (by show xs.length ≤ 8; rw [HRS.out]; exact HR8.out), hid (HB11.out.trans HST2.out.2.2), hid (by have h1 := HGE.out.1; have h2 := HEV.out.lt; have h3 := HST2.out.2.2.size; omega)⟩
                          case measure => simp [intOf]; omega
                · have hkz : (0 : Int) < (k : Int) := by omega
                  have hkzn : 0 < k := by omega
                  have hkd : decide ((0 : Int) < (k : Int)) = true := by simpa using hkz
                  obtain ⟨j, hj⟩ : ∃ j, k = j + 1 := ⟨k - 1, by omega⟩
                  obtain ⟨x, xb, xo, hx, hxa, hxb, hx0, _⟩ := (EvsR.old HX.out HB6.out).at_ (show j < en by omega)
                  dsimp only at hxa
                  have hxe : b1 = xb ∧ o1 = xo := by simp only [Option.some.injEq, Addr.mk.injEq, and_true] at hxa; exact hxa
                  obtain ⟨rfl, rfl⟩ := hxe
                  have HOD : Hid (orderB (es.take k) e = decide (x.t < e.t)) := hid (by rw [hj]; exact orderB_at hx)
                  have s1 : IntKind.i64.wrap ((k : Int) - 1) = (j : Int) := by rw [IntWalk.i64_in _ (by omega)]; omega
                  have hj0 : (0 : Int) ≤ (j : Int) := by omega
                  have hj1 : (j : Int) < (en : Int) := by omega
                  clear hj hk0 hx hxa
                  cases hod : decide (x.t < e.t) with
                  | false =>
                    have HFO := hid (show formB G (es.take k) e = false by unfold formB; rw [hck, htk, HOD.out, hod]; rfl)
                    have hop : e.t ≤ x.t := by simp at hod; omega
                    have e0 := HEV.out.cell (j := 0) rfl
                    have e1 := HEV.out.cell (j := 1) rfl
                    have e2 := HEV.out.cell (j := 2) rfl
                    have e3 := HEV.out.cell (j := 3) rfl
                    have e4 := HEV.out.cell (j := 4) rfl
                    have hle := HEV.out.lt
                    obtain ⟨hlg, g0, g1, g2, g3⟩ := HG.out.old HB6.out
                    have hov := over_cell w6
                    refine wp_region_over (by kernel_rfl) (by kernel_rfl) ?_
                    repeat (go_big_quiet_step ((first | (go_at_call 84; exact calls_over (calls_boo2 hck (implCommandOk_any G e.c _))) | (go_at_call 81; with_reducible exact calls_over_same (between_of htk)))))
                    refine wpQuiet_nil ?_
                    intro w7 B
                    have HB7 := hid (below_step HB6.out B (Nat.le_refl _))
                    have HV := hid (HV.out.old B)
                    have HEV := hid (HEV.out.old B)
                    have HO := hid ((HO.out.old B).up B.size (Nat.le_refl _))
                    
                    clear B hov e0 e1 e2 e3 e4 g0 g1 g2 g3 hle hlg HB6
                    have HRR := hid (HTF.out.trans (HI.out.stop HE.out (chk_form HFO.out) (by decide)))
                    go_wp2_with fail
                    go_ret2
                    exact ⟨by show _ = Ending.returned (.tuple #[.int .i64 (traceFault G T es).1, .int .i64 (traceFault G T es).2]); rw [HRR.out]; rfl, HB.out.trans (HB7.out.mono HB.out.size)⟩
                  | true =>
                    have HFO := hid (show formB G (es.take k) e = true by unfold formB; rw [hck, htk, HOD.out, hod]; rfl)
                    have hop : ¬ e.t ≤ x.t := by simp at hod; omega
                    have e0 := HEV.out.cell (j := 0) rfl
                    have e1 := HEV.out.cell (j := 1) rfl
                    have e2 := HEV.out.cell (j := 2) rfl
                    have e3 := HEV.out.cell (j := 3) rfl
                    have e4 := HEV.out.cell (j := 4) rfl
                    have hle := HEV.out.lt
                    obtain ⟨hlg, g0, g1, g2, g3⟩ := HG.out.old HB6.out
                    have hov := over_cell w6
                    refine wp_region_over (by kernel_rfl) (by kernel_rfl) ?_
                    repeat (go_big_quiet_step ((first | (go_at_call 84; exact calls_over (calls_boo2 hck (implCommandOk_any G e.c _))) | (go_at_call 81; with_reducible exact calls_over_same (between_of htk)))))
                    refine wpQuiet_nil ?_
                    intro w7 B
                    have HB7 := hid (below_step HB6.out B (Nat.le_refl _))
                    have HV := hid (HV.out.old B)
                    have HEV := hid (HEV.out.old B)
                    have HO := hid ((HO.out.old B).up B.size (Nat.le_refl _))
                    
                    clear B hov e0 e1 e2 e3 e4 g0 g1 g2 g3 hle hlg HB6
                    clear hx0 hxb s1 hj0 hj1
                    have e1 := HEV.out.cell (j := 1) rfl
                    have e2 := HEV.out.cell (j := 2) rfl
                    have e3 := HEV.out.cell (j := 3) rfl
                    have e4 := HEV.out.cell (j := 4) rfl
                    have v0 := HV.out.cell (j := 0) rfl
                    have v1 := HV.out.cell (j := 1) rfl
                    obtain ⟨_, g0, g1, g2, g3⟩ := HG.out.old HB7.out
                    go_wp2_with fail
                    clear e1 e2 e3 e4 v0 v1 g0 g1 g2 g3
                    refine (implRankAfter_any G ⟨ra, rn, rc, rs, rp⟩ e.c _ HO.out.reads (by have h1 := HRN.out; have h2 := HR8.out; show rn ≤ _; omega)).mono ?_
                    rintro e' w8 ⟨⟨xa, xn, xc, xs, xp⟩, rfl, O, D, B⟩
                    rw [show allowed G (RankE.d ⟨ra, rn, rc, rs, rp⟩) e.c = may (RankE.d ⟨ra, rn, rc, rs, rp⟩) e.c from allowed_may HI.out.ok HCK.out]
                    have HAL := hid (allowed_may (C := e.c) HI.out.ok HCK.out)
                    have HV := hid (HV.out.old B)
                    have HEV := hid (HEV.out.old B)
                    have HO2 := hid (OwnF.mono O (show w2.heap.size ≤ w7.heap.size from HB7.out.size))
                    have HD2 := hid D
                    have HB8 := hid (below_step HB7.out B (Nat.le_refl _))
                    clear O D B HO HB7
                    go_upto_region 10 with (fail)
                    refine wp_world (fun w9 hw => ?_)
                    have HX9 : Hid (Blk w9 w8.heap.size 41 [.slice xa xn xc, .int .i64 xp]) := by rw [hw.out]; exact hid (Blk.new _ _ _)
                    have B : Below w8.heap.size w8 w9 := by rw [hw.out]; exact below_alloc _ _
                    clear hw
                    have HV := hid (HV.out.old B)
                    have HEV := hid (HEV.out.old B)
                    have HO := hid (OwnF.up (OwnF.old HO2.out B) B.size (Nat.le_refl _))
                    have HB9 := hid (below_step HB8.out B (Nat.le_refl _))
                    clear B HO2 HB8
                    generalize w8.heap.size = g9 at HX9 ⊢
                    cases hm : may (RankE.d ⟨ra, rn, rc, rs, rp⟩) e.c with
                    | false =>
                      have HRR := hid (HTF.out.trans (HI.out.stop HE.out (chk_may HFO.out hm) (by decide)))
                      go_wp2_with fail
                      go_ret2
                      exact ⟨by show _ = Ending.returned (.tuple #[.int .i64 (traceFault G T es).1, .int .i64 (traceFault G T es).2]); rw [HRR.out]; rfl, HB.out.trans (HB9.out.mono HB.out.size)⟩
                    | true =>
                      have HM := hid hm
                      have HDD := hid (show (⟨xs, xp⟩ : RkD) = doR (RankE.d ⟨ra, rn, rc, rs, rp⟩) e.c from HD2.out.trans (rankAfter_yes (HAL.out.trans hm)))
                      have HRS := hid (show xs.length = rs.length by have h := congrArg (fun d => d.banks.length) HDD.out; rw [doR_len] at h; exact h)
                      clear hm HD2
                      have HXR := hid (EvsRd.take (EvsRd.old HX.out HB9.out) (k := k) hk)
                      have HTT := hid HI.out.times
                      obtain ⟨ev, hev⟩ : ∃ v, earl G T (es.take k) e.c = v := ⟨_, rfl⟩
                      have HEL := hid hev
                      clear hev
                      go_upto_region 12 with (fail)
                      have e0 := HEV.out.cell (j := 0) rfl
                      have e1 := HEV.out.cell (j := 1) rfl
                      have e2 := HEV.out.cell (j := 2) rfl
                      have e3 := HEV.out.cell (j := 3) rfl
                      have e4 := HEV.out.cell (j := 4) rfl
                      have hle := HEV.out.lt
                      obtain ⟨hlg, g0, g1, g2, g3⟩ := HG.out.old HB9.out
                      have HT3 := hid (HT.out.old HB9.out)
                      have hov := over_cell w9
                      refine wp_region_over (by kernel_rfl) (by kernel_rfl) ?_
                      repeat (first | (refine wpQuiet_load_tim (by rintro _ ⟨t, rfl⟩; exact HT3.out.old t.below) rfl _ (by rfl) (by rfl) ?_; simp only [Act.put, List.setIfInBounds_toArray, List.set_cons_succ, List.set_cons_zero]) | go_big_quiet_step ((go_at_call 82; exact calls_over (calls_int HEL.out (earliest_any G T ⟨some ⟨b1, o1, none⟩, k, ec, es.take k⟩ e.c _ (EvsRd.old HXR.out (Over.below _)) (Nat.le_trans (Nat.le_of_lt hlt) hn) HTO.out HTT.out)))))
                      refine wpQuiet_nil ?_
                      intro w10 B
                      have HB10 := hid (below_step HB9.out B (Nat.le_refl _))
                      have HV := hid (HV.out.old B)
                      have HEV := hid (HEV.out.old B)
                      have HX9 := hid (HX9.out.old B)
                      have HO := hid ((HO.out.old B).up B.size (Nat.le_refl _))
                      clear B hov e0 e1 e2 e3 e4 g0 g1 g2 g3 hle hlg HB9 HT3 HXR
                      cases hce : decide (e.t < ev) with
                      | true =>
                        have HCE := hid (show decide (e.t < earl G T (es.take k) e.c) = true by rw [HEL.out]; exact hce)
                        have HRR := hid (HTF.out.trans (HI.out.stop HE.out (chk_gap HFO.out HM.out HCE.out) (by decide)))
                        go_wp2_with fail
                        go_ret2
                        exact ⟨by show _ = Ending.returned (.tuple #[.int .i64 (traceFault G T es).1, .int .i64 (traceFault G T es).2]); rw [HRR.out]; rfl, HB.out.trans (HB10.out.mono HB.out.size)⟩
                      | false =>
                        have HCE := hid (show decide (e.t < earl G T (es.take k) e.c) = false by rw [HEL.out]; exact hce)
                        go_upto_region 14 with (fail)
                        cases hk1 : (e.c.k == 1) with
                        | false =>
                          have HFW := hid (show (e.c.k == 1 && decide (e.t < fawT T (es.take k))) = false by rw [hk1]; rfl)
                          have e0 := HEV.out.cell (j := 0) rfl
                          have e1 := HEV.out.cell (j := 1) rfl
                          have hle := HEV.out.lt
                          have HT3 := hid (HT.out.old HB10.out)
                          have hov := over_cell w10
                          refine wp_region_over (by kernel_rfl) (by kernel_rfl) ?_
                          repeat (go_big_quiet_step (fail))
                          refine wpQuiet_nil ?_
                          intro w11 B
                          have HB11 := hid (below_step HB10.out B (Nat.le_refl _))
                          have HV := hid (HV.out.old B)
                          have HEV := hid (HEV.out.old B)
                          have HX9 := hid (HX9.out.old B)
                          have HO := hid ((HO.out.old B).up B.size (Nat.le_refl _))
                          clear B hov e0 e1 hle HT3 HB10
                          have HI2 := hid (HI.out.step HE.out HFO.out HM.out (chk_ok HFO.out HM.out HCE.out HFW.out))
                          have x0 := HX9.out.cell (j := 0) rfl
                          have x1 := HX9.out.cell (j := 1) rfl
                          have v0 := HV.out.cell (j := 0) rfl
                          have v1 := HV.out.cell (j := 1) rfl
                          have f0 := HV.out.frozen 0
                          have f1 := HV.out.frozen 1
                          have HST := hid (rank_stored (R := ⟨xa, xn, xc, xs, xp⟩) HV.out HO.out HG8.out.1)
                          dsimp only at HST
                          go_upto_region 17 with (fail)
                          refine wp_world (fun w12 hw => ?_)
                          have HST2 : Hid (Blk w12 g8 41 [.slice xa xn xc, .int .i64 xp] ∧ OwnR w12 w2.heap.size w12.heap.size ⟨xa, xn, xc, xs, xp⟩ ∧ Below w2.heap.size w11 w12) := by rw [hw.out]; exact hid ⟨HST.out.1, HST.out.2.1, HST.out.2.2.1⟩
                          clear hw HST x0 x1 v0 v1 f0 f1
                          go_wp2_with fail
                          go_roundw
                          case rel => exact ⟨k + 1, ⟨xa, xn, xc, xs, xp⟩, by omega, by go_num, hid HST2.out.1, hid HST2.out.2.1, hid (by rw [show (RankE.d ⟨xa, xn, xc, xs, xp⟩) = _ from HDD.out]; exact HI2.out), hid (by show xs.length ≤ 8; rw [HRS.out]; exact HR8.out), hid (HB11.out.trans HST2.out.2.2), hid (by have h1 := HGE.out.1; have h2 := HEV.out.lt; have h3 := HST2.out.2.2.size; omega)⟩
                          case measure => simp [intOf]; omega
                        | true =>
                          have HXR := hid (EvsRd.take (EvsRd.old HX.out HB10.out) (k := k) hk)
                          obtain ⟨fv, hfv⟩ : ∃ v, fawT T (es.take k) = v := ⟨_, rfl⟩
                          have HFE := hid hfv
                          clear hfv
                          cases hfd : decide (e.t < fv) with
                          | true =>
                            have HFW := hid (show (e.c.k == 1 && decide (e.t < fawT T (es.take k))) = true by rw [hk1, HFE.out, hfd]; rfl)
                            have hfp : e.t < fv := by simpa using hfd
                            have e0 := HEV.out.cell (j := 0) rfl
                            have e1 := HEV.out.cell (j := 1) rfl
                            have hle := HEV.out.lt
                            have HT3 := hid (HT.out.old HB10.out)
                            have hov := over_cell w10
                            refine wp_region_over (by kernel_rfl) (by kernel_rfl) ?_
                            repeat (first | (refine wpQuiet_load_timW (by rintro _ ⟨t, rfl⟩; exact HT3.out.old t.below) _ (by rfl) (by rfl) (by rfl) ?_; simp only [Act.put, List.setIfInBounds_toArray, List.set_cons_succ, List.set_cons_zero]) | go_big_quiet_step ((go_at_call 83; exact calls_over (calls_int HFE.out (fawTime_any T ⟨some ⟨b1, o1, none⟩, k, ec, es.take k⟩ _ (EvsRd.old HXR.out (Over.below _)) (Nat.le_trans (Nat.le_of_lt hlt) hn) HTO.out HTT.out)))))
                            refine wpQuiet_nil ?_
                            intro w11 B
                            have HB11 := hid (below_step HB10.out B (Nat.le_refl _))
                            have HV := hid (HV.out.old B)
                            have HEV := hid (HEV.out.old B)
                            have HX9 := hid (HX9.out.old B)
                            have HO := hid ((HO.out.old B).up B.size (Nat.le_refl _))
                            clear B hov e0 e1 hle HT3 HB10
                            have HRR := hid (HTF.out.trans (HI.out.stop HE.out (chk_faw HFO.out HM.out HCE.out HFW.out) (by decide)))
                            go_wp2_with fail
                            go_ret2
                            exact ⟨by show _ = Ending.returned (.tuple #[.int .i64 (traceFault G T es).1, .int .i64 (traceFault G T es).2]); rw [HRR.out]; rfl, HB.out.trans (HB11.out.mono HB.out.size)⟩
                          | false =>
                            have HFW := hid (show (e.c.k == 1 && decide (e.t < fawT T (es.take k))) = false by rw [hk1, HFE.out, hfd]; rfl)
                            have hfp : ¬ e.t < fv := by simpa using hfd
                            have e0 := HEV.out.cell (j := 0) rfl
                            have e1 := HEV.out.cell (j := 1) rfl
                            have hle := HEV.out.lt
                            have HT3 := hid (HT.out.old HB10.out)
                            have hov := over_cell w10
                            refine wp_region_over (by kernel_rfl) (by kernel_rfl) ?_
                            repeat (first | (refine wpQuiet_load_timW (by rintro _ ⟨t, rfl⟩; exact HT3.out.old t.below) _ (by rfl) (by rfl) (by rfl) ?_; simp only [Act.put, List.setIfInBounds_toArray, List.set_cons_succ, List.set_cons_zero]) | go_big_quiet_step ((go_at_call 83; exact calls_over (calls_int HFE.out (fawTime_any T ⟨some ⟨b1, o1, none⟩, k, ec, es.take k⟩ _ (EvsRd.old HXR.out (Over.below _)) (Nat.le_trans (Nat.le_of_lt hlt) hn) HTO.out HTT.out)))))
                            refine wpQuiet_nil ?_
                            intro w11 B
                            have HB11 := hid (below_step HB10.out B (Nat.le_refl _))
                            have HV := hid (HV.out.old B)
                            have HEV := hid (HEV.out.old B)
                            have HX9 := hid (HX9.out.old B)
                            have HO := hid ((HO.out.old B).up B.size (Nat.le_refl _))
                            clear B hov e0 e1 hle HT3 HB10
                            have HI2 := hid (HI.out.step HE.out HFO.out HM.out (chk_ok HFO.out HM.out HCE.out HFW.out))
                            have x0 := HX9.out.cell (j := 0) rfl
                            have x1 := HX9.out.cell (j := 1) rfl
                            have v0 := HV.out.cell (j := 0) rfl
                            have v1 := HV.out.cell (j := 1) rfl
                            have f0 := HV.out.frozen 0
                            have f1 := HV.out.frozen 1
                            have HST := hid (rank_stored (R := ⟨xa, xn, xc, xs, xp⟩) HV.out HO.out HG8.out.1)
                            dsimp only at HST
                            go_upto_region 17 with (fail)
                            refine wp_world (fun w12 hw => ?_)
                            have HST2 : Hid (Blk w12 g8 41 [.slice xa xn xc, .int .i64 xp] ∧ OwnR w12 w2.heap.size w12.heap.size ⟨xa, xn, xc, xs, xp⟩ ∧ Below w2.heap.size w11 w12) := by rw [hw.out]; exact hid ⟨HST.out.1, HST.out.2.1, HST.out.2.2.1⟩
                            clear hw HST x0 x1 v0 v1 f0 f1
                            go_wp2_with fail
                            go_roundw
                            case rel => exact ⟨k + 1, ⟨xa, xn, xc, xs, xp⟩, by omega, by go_num, hid HST2.out.1, hid HST2.out.2.1, hid (by rw [show (RankE.d ⟨xa, xn, xc, xs, xp⟩) = _ from HDD.out]; exact HI2.out), hid (by show xs.length ≤ 8; rw [HRS.out]; exact HR8.out), hid (HB11.out.trans HST2.out.2.2), hid (by have h1 := HGE.out.1; have h2 := HEV.out.lt; have h3 := HST2.out.2.2.size; omega)⟩
                            case measure => simp [intOf]; omega
end Go.Proofs.Ytggjheapjklhgaa
