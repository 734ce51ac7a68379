/- TraceFault: what the reference's returns. -/
import Derived.Test.YtggjheapjklhgaaDoorTfP
namespace Go.Proofs.YtggjheapjklhgaaDoor
open Go.RowKit
set_option maxHeartbeats 80000000 in
set_option maxRecDepth 100000 in
theorem specTraceFault_any (G : Geo) (T : Tim) (E : EvsE) (w : World) (hE : EvsRd w E) (hn : E.n ≤ 1048576) (hcap : E.n ≤ E.c) :
    Calls Tryd.prog 53 #[.agg #[.int .i64 G.a, .int .i64 G.b, .int .i64 G.r, .int .i64 G.c], .agg #[.int .i64 T.t0, .int .i64 T.t1, .int .i64 T.t2, .int .i64 T.t3, .int .i64 T.t4, .int .i64 T.t5, .int .i64 T.t6, .int .i64 T.t7, .int .i64 T.t8, .int .i64 T.t9, .int .i64 T.t10, .int .i64 T.t11, .int .i64 T.t12, .int .i64 T.t13, .int .i64 T.t14, .int .i64 T.t15, .int .i64 T.t16], .slice E.a E.n E.c] w fun e w' => e = .returned (.tuple #[.int .i64 (traceFault G T E.d).1, .int .i64 (traceFault G T E.d).2]) ∧ Below w.heap.size w w' := by
  obtain ⟨ea, en, ec, es⟩ := E
  have HX := hid hE
  have HL : Hid (en = es.length) := hid (EvsRd.len hE)
  dsimp only at hn hcap
  clear hE
  have HG0 := hid ((BoxG.new_ w 32 G rfl).old (below_alloc _ (.cells #[.int .i64 T.t0, .int .i64 T.t1, .int .i64 T.t2, .int .i64 T.t3, .int .i64 T.t4, .int .i64 T.t5, .int .i64 T.t6, .int .i64 T.t7, .int .i64 T.t8, .int .i64 T.t9, .int .i64 T.t10, .int .i64 T.t11, .int .i64 T.t12, .int .i64 T.t13, .int .i64 T.t14, .int .i64 T.t15, .int .i64 T.t16] 34)))
  have HT0 := hid (BoxT.new_ (w.alloc (.cells #[.int .i64 G.a, .int .i64 G.b, .int .i64 G.r, .int .i64 G.c] 32)) 34 T (show _ = w.heap.size + 1 by simp))
  have HBB := hid (below_alloc2 w (.cells #[.int .i64 G.a, .int .i64 G.b, .int .i64 G.r, .int .i64 G.c] 32) (.cells #[.int .i64 T.t0, .int .i64 T.t1, .int .i64 T.t2, .int .i64 T.t3, .int .i64 T.t4, .int .i64 T.t5, .int .i64 T.t6, .int .i64 T.t7, .int .i64 T.t8, .int .i64 T.t9, .int .i64 T.t10, .int .i64 T.t11, .int .i64 T.t12, .int .i64 T.t13, .int .i64 T.t14, .int .i64 T.t15, .int .i64 T.t16] 34))
  go_enter Tryd.func53, Tryd.ntmps53
  go_wp2_with fail
  refine (specGeometryOk_any G _).mono ?_
  rintro e w1 ⟨rfl, B⟩
  have HG := hid (HG0.out.old B)
  have HT := hid (HT0.out.old B)
  have HB := hid (below_step HBB.out B (Nat.le_refl _))
  clear B HG0 HT0 HBB
  cases hg : gOk G with
  | false =>
    have HF := hid (traceFault_geo (T := T) (es := es) hg)
    go_wp2_with fail
    go_ret2
    exact ⟨by show _ = Ending.returned (.tuple #[.int .i64 (traceFault G T es).1, .int .i64 (traceFault G T es).2]); rw [HF.out]; rfl, HB.out⟩
  | true =>
    have HGO := hid hg
    clear hg
    go_wp2_with (refine wpList_load_timW HT.out _ rfl (by rfl) (by rfl) ?_)
    refine (specTimingOk_any T _).mono ?_
    rintro e w2 ⟨rfl, B⟩
    have HG := hid (HG.out.old B)
    have HT := hid (HT.out.old B)
    have HB := hid (below_step HB.out B (Nat.le_refl _))
    clear B
    cases ht : timOk T with
    | false =>
      have HF := hid (traceFault_tim (G := G) (es := es) ht)
      go_wp2_with fail
      go_ret2
      exact ⟨by show _ = Ending.returned (.tuple #[.int .i64 (traceFault G T es).1, .int .i64 (traceFault G T es).2]); rw [HF.out]; rfl, HB.out⟩
    | true =>
      have HTO := hid ht
      clear ht
      by_cases h2 : en ≤ 2000
      rotate_left
      · have h2i : (2000 : Int) < (en : Int) := by omega
        have HF := hid (traceFault_len (G := G) (T := T) (es := es) (by rw [← HL.out]; exact h2))
        go_wp2_with fail
        go_ret2
        exact ⟨by show _ = Ending.returned (.tuple #[.int .i64 (traceFault G T es).1, .int .i64 (traceFault G T es).2]); rw [HF.out]; rfl, HB.out⟩
      · have h2i : ¬ (2000 : Int) < (en : Int) := by omega
        have HTF := hid (traceFault_yes HGO.out HTO.out (es := es) (by rw [← HL.out]; exact h2))
        have HX := hid (EvsRd.old HX.out HB.out)
        obtain ⟨_, g0, g1, g2, g3⟩ := HG.out
        go_wp2_with fail
        clear g0 g1 g2 g3 h2i
        refine (specRankNew_any G _).mono ?_
        rintro e w3 ⟨⟨na, nn, nc, ns, np⟩, rfl, O, D, B⟩
        have HO1 := hid O
        have HD1 := hid D
        have HB1 := hid B
        clear O D B
        go_upto_region 4 with (fail)
        refine wp_world (fun w4 hw => ?_)
        have HV0 : Hid (Blk w4 w3.heap.size 75 [.slice na nn nc, .int .i64 np]) := by rw [hw.out]; exact hid (Blk.new _ _ _)
        have B : Below w3.heap.size w3 w4 := by rw [hw.out]; exact below_alloc _ _
        clear hw
        obtain ⟨g8, hg8⟩ : ∃ g, w3.heap.size = g := ⟨_, rfl⟩
        have HO0 := hid (HO1.out.old B)
        have HB0 := hid (below_step HB1.out B (Nat.le_refl _))
        have HG8 : Hid (w2.heap.size ≤ g8 ∧ g8 < w4.heap.size) := hid (by have h1 := HB1.out.size; have h2 := HV0.out.lt; rw [hg8] at h1 h2; exact ⟨h1, h2⟩)
        rw [hg8] at HV0 HO0 ⊢
        clear hg8 HO1 HB1 B
        have HI0 : Hid (FltI G T es 0 (RankE.d ⟨na, nn, nc, ns, np⟩)) := hid (by rw [HD1.out]; exact FltI.start HGO.out)
        have HN8 : Hid (ns.length ≤ 8) := hid (by have h := rankNew_len G; rw [← HD1.out] at h; exact h)
        go_upto_region 6 with (fail)
        refine wp_world (fun w5 hw => ?_)
        have HA0 : Hid (OwnF encN 1 3 w5 w4.heap.size w5.heap.size (some ⟨w4.heap.size, 0, none⟩) 0 0 []) := by rw [hw.out]; exact hid (OwnF.of_lit w4 rfl)
        have B : Below w4.heap.size w4 w5 := by rw [hw.out]; exact below_alloc _ _
        clear hw
        have HWS0 := hid B.size
        have HV0 := hid (HV0.out.old B)
        have HO0 := hid (HO0.out.old B)
        have HB0 := hid (below_step HB0.out B (Nat.le_refl _))
        clear B
        go_loopw [9, 10] (fun v i wr => ∃ (k m c : Nat) (a : Option Addr) (R : RankE), k ≤ en ∧ i = .int .i64 k ∧ v = .slice a m c ∧ Hid (OwnF encN 1 3 wr w4.heap.size wr.heap.size a m c (actsOf (es.take k))) ∧ Hid (Blk wr g8 75 [.slice R.a R.n R.c, .int .i64 R.p]) ∧ Hid (OwnR wr w2.heap.size g8 R) ∧ Hid (FltI G T es k R.d) ∧ Hid (R.es.length ≤ 8) ∧ Hid (Below w2.heap.size w2 wr) ∧ Hid (w4.heap.size ≤ wr.heap.size)) (fun _ i _ => en - (intOf i).toNat)
        case atStart => exact ⟨0, 0, 0, _, ⟨na, nn, nc, ns, np⟩, Nat.zero_le _, rfl, rfl, HA0, HV0, HO0, HI0, HN8, HB0, HWS0⟩
        case round =>
          clear HA0 HV0 HO0 HI0 HN8 HB0 HWS0
          obtain ⟨k, m, c, a, ⟨ra, rn, rc, rs, rp⟩, hk, rfl, rfl, HAC, HV, HO, HI, HR8, HBr, HWS⟩ := hrel
          dsimp only at HV HO HI HR8
          by_cases hlt : k < en
          rotate_left
          · have hkn : k = en := by omega
            have hd := HI.out
            rw [hkn, HL.out] at hd
            have HRR := hid (HTF.out.trans hd.done)
            clear hd hkn
            go_wp2_with fail
            go_ret2
            exact ⟨by show _ = Ending.returned (.tuple #[.int .i64 (traceFault G T es).1, .int .i64 (traceFault G T es).2]); rw [HRR.out]; rfl, HB.out.trans (HBr.out.mono HB.out.size)⟩
          · obtain ⟨e, b1, o1, he, ha, hb1, hc0, hc1, hc2, hc3, hc4⟩ := (EvsR.old HX.out HBr.out).at_ hlt
            dsimp only at ha
            subst ha
            have HE := hid he
            have HRN : Hid (rn = rs.length) := hid HO.out.reads.len
            clear he
            go_upto_region 9 with (fail)
            refine wp_world (fun w6 hw => ?_)
            have HEV : Hid (Blk w6 wr.heap.size 42 [.int .i64 e.t, .int .i64 e.c.k, .int .i64 e.c.b, .int .i64 e.c.r, .int .i64 e.c.c]) := by rw [hw.out]; exact hid (Blk.new _ _ _)
            have B : Below wr.heap.size wr w6 := by rw [hw.out]; exact below_alloc _ _
            clear hw hc0 hc1 hc2 hc3 hc4 hb1
            have HV := hid (HV.out.old B)
            have HO := hid (HO.out.old B)
            have HAC := hid ((HAC.out.old B).up B.size (Nat.le_refl _))
            have HB6 := hid (below_step HBr.out B (Nat.le_refl _))
            have HGE : Hid (w4.heap.size ≤ wr.heap.size ∧ g8 < wr.heap.size) := hid (by have h1 := HWS.out; have h2 := HG8.out.2; omega)
            clear B HBr
            generalize wr.heap.size = ge at HEV HGE ⊢
            have hki : (0 : Int) ≤ (k : Int) := by omega
            have hki2 : (k : Int) < (en : Int) := by omega
            have hkc : k ≤ ec := by omega
            have hkci : (k : Int) ≤ (ec : Int) := by omega
            cases hck : cmdOk G e.c with
            | false =>
              have HFO := hid (show formB G (es.take k) e = false by unfold formB; rw [hck]; rfl)
              have e0 := HEV.out.cell (j := 0) rfl
              have e1 := HEV.out.cell (j := 1) rfl
              have e2 := HEV.out.cell (j := 2) rfl
              have e3 := HEV.out.cell (j := 3) rfl
              have e4 := HEV.out.cell (j := 4) rfl
              have hle := HEV.out.lt
              obtain ⟨hlg, g0, g1, g2, g3⟩ := HG.out.old HB6.out
              have hov := over_cell w6
              refine wp_region_over (by kernel_rfl) (by kernel_rfl) ?_
              repeat (go_big_quiet_step ((first | (go_at_call 64; exact calls_over (calls_boo2 hck (specCommandOk_any G e.c _))) | (go_at_call 37; with_reducible exact calls_over_same (l01In_of htk)))))
              refine wpQuiet_nil ?_
              intro w7 B
              have HB7 := hid (below_step HB6.out B (Nat.le_refl _))
              have HV := hid (HV.out.old B)
              have HEV := hid (HEV.out.old B)
              have HO := hid (HO.out.old B)
              have HAC := hid ((HAC.out.old B).up B.size (Nat.le_refl _))
              clear B hov e0 e1 e2 e3 e4 g0 g1 g2 g3 hle hlg HB6
              have HRR := hid (HTF.out.trans (HI.out.stop HE.out (chk_form HFO.out) (by decide)))
              go_wp2_with fail
              go_ret2
              exact ⟨by show _ = Ending.returned (.tuple #[.int .i64 (traceFault G T es).1, .int .i64 (traceFault G T es).2]); rw [HRR.out]; rfl, HB.out.trans (HB7.out.mono HB.out.size)⟩
            | true =>
              have HCK := hid hck
              cases htk : inB e.t 0 1000000 with
              | false =>
                have HFO := hid (show formB G (es.take k) e = false by unfold formB; rw [htk]; simp)
                have e0 := HEV.out.cell (j := 0) rfl
                have e1 := HEV.out.cell (j := 1) rfl
                have e2 := HEV.out.cell (j := 2) rfl
                have e3 := HEV.out.cell (j := 3) rfl
                have e4 := HEV.out.cell (j := 4) rfl
                have hle := HEV.out.lt
                obtain ⟨hlg, g0, g1, g2, g3⟩ := HG.out.old HB6.out
                have hov := over_cell w6
                refine wp_region_over (by kernel_rfl) (by kernel_rfl) ?_
                repeat (go_big_quiet_step ((first | (go_at_call 64; exact calls_over (calls_boo2 hck (specCommandOk_any G e.c _))) | (go_at_call 37; with_reducible exact calls_over_same (l01In_of htk)))))
                refine wpQuiet_nil ?_
                intro w7 B
                have HB7 := hid (below_step HB6.out B (Nat.le_refl _))
                have HV := hid (HV.out.old B)
                have HEV := hid (HEV.out.old B)
                have HO := hid (HO.out.old B)
                have HAC := hid ((HAC.out.old B).up B.size (Nat.le_refl _))
                clear B hov e0 e1 e2 e3 e4 g0 g1 g2 g3 hle hlg HB6
                have HRR := hid (HTF.out.trans (HI.out.stop HE.out (chk_form HFO.out) (by decide)))
                go_wp2_with fail
                go_ret2
                exact ⟨by show _ = Ending.returned (.tuple #[.int .i64 (traceFault G T es).1, .int .i64 (traceFault G T es).2]); rw [HRR.out]; rfl, HB.out.trans (HB7.out.mono HB.out.size)⟩
              | true =>
                have HTK := hid (inB_iff.1 htk)
                have htb := inB_iff.1 htk
                by_cases hk0 : k = 0
                · have hkz : ¬ (0 : Int) < (k : Int) := by omega
                  have hkzn : ¬ 0 < k := by omega
                  have hkd : decide ((0 : Int) < (k : Int)) = false := by simpa using hkz
                  have HFO := hid (show formB G (es.take k) e = true by unfold formB; rw [hck, htk, hk0]; rfl)
                  clear hk0
                  have e0 := HEV.out.cell (j := 0) rfl
                  have e1 := HEV.out.cell (j := 1) rfl
                  have e2 := HEV.out.cell (j := 2) rfl
                  have e3 := HEV.out.cell (j := 3) rfl
                  have e4 := HEV.out.cell (j := 4) rfl
                  have hle := HEV.out.lt
                  obtain ⟨hlg, g0, g1, g2, g3⟩ := HG.out.old HB6.out
                  have hov := over_cell w6
                  refine wp_region_over (by kernel_rfl) (by kernel_rfl) ?_
                  repeat (go_big_quiet_step ((first | (go_at_call 64; exact calls_over (calls_boo2 hck (specCommandOk_any G e.c _))) | (go_at_call 37; with_reducible exact calls_over_same (l01In_of htk)))))
                  refine wpQuiet_nil ?_
                  intro w7 B
                  have HB7 := hid (below_step HB6.out B (Nat.le_refl _))
                  have HV := hid (HV.out.old B)
                  have HEV := hid (HEV.out.old B)
                  have HO := hid (HO.out.old B)
                  have HAC := hid ((HAC.out.old B).up B.size (Nat.le_refl _))
                  clear B hov e0 e1 e2 e3 e4 g0 g1 g2 g3 hle hlg HB6
                  have HIN : Hid (inR rn e.c) := hid (inR_of (R := ⟨ra, rn, rc, rs, rp⟩) HRN.out HI.out.ok HCK.out)
                  have hrn : rn ≤ 1048576 := by have h1 := HRN.out; have h2 := HR8.out; omega
                  have e1 := HEV.out.cell (j := 1) rfl
                  have e2 := HEV.out.cell (j := 2) rfl
                  have e3 := HEV.out.cell (j := 3) rfl
                  have e4 := HEV.out.cell (j := 4) rfl
                  have v0 := HV.out.cell (j := 0) rfl
                  have v1 := HV.out.cell (j := 1) rfl
                  go_wp2_with fail
                  clear e1 e2 e3 e4 v0 v1
                  refine (l08May_any ⟨ra, rn, rc, rs, rp⟩ e.c _ HO.out.reads hrn HIN.out).mono ?_
                  rintro e' w8 ⟨rfl, B⟩
                  have HB8 := hid (below_step HB7.out B (Nat.le_refl _))
                  have HV := hid (HV.out.old B)
                  have HEV := hid (HEV.out.old B)
                  have HO := hid (HO.out.old B)
                  have HAC := hid ((HAC.out.old B).up B.size (Nat.le_refl _))
                  clear B HB7
                  cases hm : may (RankE.d ⟨ra, rn, rc, rs, rp⟩) e.c with
                  | false =>
                    have HRR := hid (HTF.out.trans (HI.out.stop HE.out (chk_may HFO.out hm) (by decide)))
                    go_wp2_with fail
                    go_ret2
                    exact ⟨by show _ = Ending.returned (.tuple #[.int .i64 (traceFault G T es).1, .int .i64 (traceFault G T es).2]); rw [HRR.out]; rfl, HB.out.trans (HB8.out.mono HB.out.size)⟩
                  | true =>
                    have HM := hid hm
                    clear hm
                    have e1 := HEV.out.cell (j := 1) rfl
                    have e2 := HEV.out.cell (j := 2) rfl
                    have e3 := HEV.out.cell (j := 3) rfl
                    have e4 := HEV.out.cell (j := 4) rfl
                    go_wp2_with fail
                    clear e1 e2 e3 e4
                    refine (l08Do_any g8 w2.heap.size g8 ⟨ra, rn, rc, rs, rp⟩ e.c _ HV.out HO.out HIN.out (.inr (Nat.le_refl _)) hrn).mono ?_
                    rintro e' w9 ⟨rfl, ⟨ra', rn', rc', rs', rp'⟩, h1, h2, h3, h4, V, O, K⟩
                    dsimp only at h1 h2 h3
                    subst h1 h2 h3
                    have HIN2 : Hid (∀ b, b = g8 ∨ blkR ⟨ra', rn', rc', rs, rp⟩ b → w2.heap.size ≤ b ∧ b < w4.heap.size) := hid (fun b hb => by
                      have hg := HG8.out
                      rcases hb with hb | hb
                      · omega
                      · have := OwnR.in_ HO.out hb; omega)
                    have HEV := hid (HEV.out.keeps K (fun hS => by have h := HIN2.out _ hS; have h2 := HGE.out; omega))
                    have HAC := hid (OwnF.up (OwnF.keeps HAC.out K (fun b hb1 hb2 hS => by have h := HIN2.out _ hS; omega)) K.size (Nat.le_refl _))
                    have HB9 := hid (HB8.out.trans (K.below HB8.out.size (fun q hq hS => by have h := HIN2.out _ hS; omega)))
                    have HV := hid V
                    have HO := hid O
                    have HDD := hid (show (⟨rs', rp'⟩ : RkD) = doR (RankE.d ⟨ra', rn', rc', rs, rp⟩) e.c from h4)
                    have HRS := hid (show rs'.length = rs.length by have h := congrArg (fun d => d.banks.length) h4; rw [doR_len] at h; exact h)
                    clear h4 V O K HIN2 HB8
                    have HXR := hid (EvsRd.take (EvsRd.old HX.out HB9.out) (k := k) hk)
                    have HBK : Hid (∀ x ∈ es.take k, bkOk G x.c) := hid (fun x hx => bkOk_of (HI.out.cmds x hx))
                    have HTT := hid HI.out.times
                    have HBE := hid (bkOk_of HCK.out)
                    have HCE := hid (close_earl (G := G) (T := T) (es := es.take k) (V := e) htb.1)
                    obtain ⟨cl, hcl⟩ : ∃ b, closeB G T (es.take k) e = b := ⟨_, rfl⟩
                    have HCL := hid hcl
                    clear hcl
                    go_upto_region 14 with (fail)
                    have e0 := HEV.out.cell (j := 0) rfl
                    have e1 := HEV.out.cell (j := 1) rfl
                    have e2 := HEV.out.cell (j := 2) rfl
                    have e3 := HEV.out.cell (j := 3) rfl
                    have e4 := HEV.out.cell (j := 4) rfl
                    have hle := HEV.out.lt
                    obtain ⟨hlg, g0, g1, g2, g3⟩ := HG.out.old HB9.out
                    have HT3 := hid (HT.out.old HB9.out)
                    have hov := over_cell w9
                    refine wp_region_over (by kernel_rfl) (by kernel_rfl) ?_
                    repeat (first | (refine wpQuiet_load_tim (by rintro _ ⟨t, rfl⟩; exact HT3.out.old t.below) rfl _ (by rfl) (by rfl) ?_; simp only [Act.put, List.setIfInBounds_toArray, List.set_cons_succ, List.set_cons_zero]) | go_big_quiet_step ((go_at_call 65; exact calls_over (calls_boo2 HCL.out (l09Close_any G T ⟨some ⟨b1, o1, none⟩, k, ec, es.take k⟩ e _ (EvsRd.old HXR.out (Over.below _)) (Nat.le_trans (Nat.le_of_lt hlt) hn) HTO.out HGO.out HTT.out HBK.out HBE.out HTK.out)))))
                    refine wpQuiet_nil ?_
                    intro w10 B
                    have HB10 := hid (below_step HB9.out B (Nat.le_refl _))
                    have HV := hid (HV.out.old B)
                    have HEV := hid (HEV.out.old B)
                    have HO := hid (HO.out.old B)
                    have HAC := hid ((HAC.out.old B).up B.size (Nat.le_refl _))
                    clear B hov e0 e1 e2 e3 e4 g0 g1 g2 g3 hle hlg HB9 HT3 HXR
                    have HCE := hid (HCE.out.symm.trans HCL.out)
                    cases cl with
                    | true =>
                      have HRR := hid (HTF.out.trans (HI.out.stop HE.out (chk_gap HFO.out HM.out HCE.out) (by decide)))
                      go_wp2_with fail
                      go_ret2
                      exact ⟨by show _ = Ending.returned (.tuple #[.int .i64 (traceFault G T es).1, .int .i64 (traceFault G T es).2]); rw [HRR.out]; rfl, HB.out.trans (HB10.out.mono HB.out.size)⟩
                    | false =>
                      have e1 := HEV.out.cell (j := 1) rfl
                      cases hk1 : (e.c.k == 1) with
                      | false =>
                        have HFW := hid (show (e.c.k == 1 && decide (e.t < fawT T (es.take k))) = false by rw [hk1]; rfl)
                        have HI2 := hid (HI.out.step HE.out HFO.out HM.out (chk_ok HFO.out HM.out HCE.out HFW.out))
                        have HA2 := hid (actsOf_at HE.out)
                        rw [hk1] at HA2
                        go_wp2_with fail
                        go_roundw
                        case rel => exact ⟨k + 1, m, c, a, ⟨ra', rn', rc', rs', rp'⟩, by omega, by go_num, rfl, hid (by rw [HA2.out]; simpa using HAC.out), HV, HO, hid (by rw [show (RankE.d ⟨ra', rn', rc', rs', rp'⟩) = _ from HDD.out]; exact HI2.out), hid (by show rs'.length ≤ 8; rw [HRS.out]; exact HR8.out), HB10, hid (by have h1 := HGE.out.1; have h2 := HEV.out.lt; omega)⟩
                        case measure => simp [intOf]; omega
                      | true =>
                        have HA2 := hid (actsOf_at HE.out)
                        rw [hk1] at HA2
                        have HML : Hid (m = (actsOf (es.take k)).length) := hid (OwnF.length encN_len (by decide) HAC.out)
                        have HWS10 : Hid (w4.heap.size ≤ w10.heap.size) := hid (by have h1 := HGE.out.1; have h2 := HEV.out.lt; omega)
                        have hmk : m ≤ 1048576 := by
                          have h1 := HML.out
                          have h2 := actsOf_len (es.take k)
                          rw [List.length_take] at h2
                          omega
                        by_cases h4 : m < 4
                        · have h4i : (m : Int) < 4 := by omega
                          have h4d : decide ((4 : Int) ≤ (m : Int)) = false := by simp; omega
                          have h4e : ¬ (4 : Int) ≤ (m : Int) := by omega
                          have HFW := hid (show (e.c.k == 1 && decide (e.t < fawT T (es.take k))) = false by rw [hk1, fawT_few (by rw [← HML.out]; exact h4)]; simp; exact htb.1)
                          go_upto_region 17 with (fail)
                          clear e1
                          have e0 := HEV.out.cell (j := 0) rfl
                          have hle := HEV.out.lt
                          have HT3 := hid (HT.out.old HB10.out)
                          have t5 := HT3.out.cs 5 _ rfl
                          have htl := HT3.out.lt
                          have hov := over_cell w10
                          refine wp_region_over (by kernel_rfl) (by kernel_rfl) ?_
                          repeat (go_big_quiet_step (fail))
                          refine wpQuiet_nil ?_
                          intro w11 B
                          have HB11 := hid (below_step HB10.out B (Nat.le_refl _))
                          have HV := hid (HV.out.old B)
                          have HEV := hid (HEV.out.old B)
                          have HO := hid (HO.out.old B)
                          have HAC := hid ((HAC.out.old B).up B.size (Nat.le_refl _))
                          have HWS11 := hid (Nat.le_trans HWS10.out B.size)
                          clear B hov e0 t5 hle htl HT3 HB10
                          have HI2 := hid (HI.out.step HE.out HFO.out HM.out (chk_ok HFO.out HM.out HCE.out HFW.out))
                          have e0 := HEV.out.cell (j := 0) rfl
                          go_upto_region 7 with (at_builtin; refine wpList_append_rec recN rfl _ _ rfl w11 w4.heap.size _ a m c (actsOf (es.take k)) HAC.out (by simp [go_sem]) e.t _ rfl (by simp [go_sem]) HWS11.out (by omega) ?_; intro a2 c2 w12 O12 K12; have HK12 := hid K12; have HO12 := hid O12; clear K12 O12 e0)
                          have HIN3 : Hid (∀ b, (Value.slice a m c).ownBlock = some b → w4.heap.size ≤ b) := hid (fun b hb => (HAC.out.row.lt b hb).1)
                          have HV12 := hid (HV.out.keeps HK12.out (fun hS => by have h := HIN3.out _ hS; have h2 := HG8.out; omega))
                          have HO12r := hid (OwnF.keeps HO.out HK12.out (fun b hb1 hb2 hS => by have h := HIN3.out _ hS; have h2 := HG8.out; omega))
                          have HB12 := hid (HB11.out.trans (HK12.out.below HB11.out.size (fun q hq hS => by have h := HIN3.out _ hS; have h2 := HG8.out; omega)))
                          have HWS12 := hid (Nat.le_trans HWS11.out HK12.out.size)
                          clear HK12 HIN3
                          go_wp2_with fail
                          go_roundw
                          case rel => exact ⟨k + 1, m + 1, c2, a2, ⟨ra', rn', rc', rs', rp'⟩, by omega, by go_num, rfl, hid (by rw [HA2.out]; exact HO12.out), HV12, HO12r, hid (by rw [show (RankE.d ⟨ra', rn', rc', rs', rp'⟩) = _ from HDD.out]; exact HI2.out), hid (by show rs'.length ≤ 8; rw [HRS.out]; exact HR8.out), HB12, HWS12⟩
                          case measure => simp [intOf]; omega
                        · have h4e : (4 : Int) ≤ (m : Int) := by omega
                          have h4d : decide ((4 : Int) ≤ (m : Int)) = true := by simp; omega
                          obtain ⟨j, hj⟩ : ∃ j, m = j + 4 := ⟨m - 4, by omega⟩
                          obtain ⟨x, hx⟩ := some_at (xs := actsOf (es.take k)) HML.out (show j < m by omega)
                          have hxb := actsOf_times HTT.out x (List.mem_of_getElem? hx)
                          obtain ⟨ab, ao, hab, hab1, hxc⟩ := RecR.ints (OwnF.reads encN_len (by decide) HAC.out) j x hx
                          have HVF := hid (show fawT T (es.take k) = x + T.t5 by
                            unfold fawT
                            rw [if_neg (by rw [← HML.out]; exact h4), ← HML.out, show m - 4 = j by omega, List.getD_eq_getElem?_getD, hx]; rfl)
                          have s1 : IntKind.i64.wrap ((m : Int) - 4) = (j : Int) := by rw [IntWalk.i64_in _ (by omega)]; omega
                          have s2 : IntKind.i64.wrap (e.t - x) = e.t - x := IntWalk.i64_in _ (by omega)
                          have hj0 : (0 : Int) ≤ (j : Int) := by omega
                          have hj1 : (j : Int) < (m : Int) := by omega
                          clear hx hj h4
                          subst hab
                          cases hfd : decide (e.t - x < T.t5) with
                          | true =>
                            have HFW := hid (show (e.c.k == 1 && decide (e.t < fawT T (es.take k))) = true by rw [hk1, HVF.out]; simp at hfd ⊢; omega)
                            have hfp : e.t - x < T.t5 := by simpa using hfd
                            go_upto_region 17 with (fail)
                            clear e1
                            have e0 := HEV.out.cell (j := 0) rfl
                            have hle := HEV.out.lt
                            have HT3 := hid (HT.out.old HB10.out)
                            have t5 := HT3.out.cs 5 _ rfl
                            have htl := HT3.out.lt
                            have hov := over_cell w10
                            refine wp_region_over (by kernel_rfl) (by kernel_rfl) ?_
                            repeat (go_big_quiet_step (fail))
                            refine wpQuiet_nil ?_
                            intro w11 B
                            have HB11 := hid (below_step HB10.out B (Nat.le_refl _))
                            have HV := hid (HV.out.old B)
                            have HEV := hid (HEV.out.old B)
                            have HO := hid (HO.out.old B)
                            have HAC := hid ((HAC.out.old B).up B.size (Nat.le_refl _))
                            have HWS11 := hid (Nat.le_trans HWS10.out B.size)
                            clear B hov e0 t5 hle htl HT3 HB10
                            have HRR := hid (HTF.out.trans (HI.out.stop HE.out (chk_faw HFO.out HM.out HCE.out HFW.out) (by decide)))
                            go_wp2_with fail
                            go_ret2
                            exact ⟨by show _ = Ending.returned (.tuple #[.int .i64 (traceFault G T es).1, .int .i64 (traceFault G T es).2]); rw [HRR.out]; rfl, HB.out.trans (HB11.out.mono HB.out.size)⟩
                          | false =>
                            have HFW := hid (show (e.c.k == 1 && decide (e.t < fawT T (es.take k))) = false by rw [hk1, HVF.out]; simp at hfd ⊢; omega)
                            have hfp : ¬ e.t - x < T.t5 := by simpa using hfd
                            go_upto_region 17 with (fail)
                            clear e1
                            have e0 := HEV.out.cell (j := 0) rfl
                            have hle := HEV.out.lt
                            have HT3 := hid (HT.out.old HB10.out)
                            have t5 := HT3.out.cs 5 _ rfl
                            have htl := HT3.out.lt
                            have hov := over_cell w10
                            refine wp_region_over (by kernel_rfl) (by kernel_rfl) ?_
                            repeat (go_big_quiet_step (fail))
                            refine wpQuiet_nil ?_
                            intro w11 B
                            have HB11 := hid (below_step HB10.out B (Nat.le_refl _))
                            have HV := hid (HV.out.old B)
                            have HEV := hid (HEV.out.old B)
                            have HO := hid (HO.out.old B)
                            have HAC := hid ((HAC.out.old B).up B.size (Nat.le_refl _))
                            have HWS11 := hid (Nat.le_trans HWS10.out B.size)
                            clear B hov e0 t5 hle htl HT3 HB10
                            clear hxc s1 s2 hj0 hj1
                            have HI2 := hid (HI.out.step HE.out HFO.out HM.out (chk_ok HFO.out HM.out HCE.out HFW.out))
                            have e0 := HEV.out.cell (j := 0) rfl
                            go_upto_region 7 with (at_builtin; refine wpList_append_rec recN rfl _ _ rfl w11 w4.heap.size _ (some ⟨ab, ao, none⟩) m c (actsOf (es.take k)) HAC.out (by simp [go_sem]) e.t _ rfl (by simp [go_sem]) HWS11.out (by omega) ?_; intro a2 c2 w12 O12 K12; have HK12 := hid K12; have HO12 := hid O12; clear K12 O12 e0)
                            have HIN3 : Hid (∀ b, (Value.slice (some ⟨ab, ao, none⟩) m c).ownBlock = some b → w4.heap.size ≤ b) := hid (fun b hb => (HAC.out.row.lt b hb).1)
                            have HV12 := hid (HV.out.keeps HK12.out (fun hS => by have h := HIN3.out _ hS; have h2 := HG8.out; omega))
                            have HO12r := hid (OwnF.keeps HO.out HK12.out (fun b hb1 hb2 hS => by have h := HIN3.out _ hS; have h2 := HG8.out; omega))
                            have HB12 := hid (HB11.out.trans (HK12.out.below HB11.out.size (fun q hq hS => by have h := HIN3.out _ hS; have h2 := HG8.out; omega)))
                            have HWS12 := hid (Nat.le_trans HWS11.out HK12.out.size)
                            clear HK12 HIN3
                            go_wp2_with fail
                            go_roundw
                            case rel => exact ⟨k + 1, m + 1, c2, a2, ⟨ra', rn', rc', rs', rp'⟩, by omega, by go_num, rfl, hid (by rw [HA2.out]; exact HO12.out), HV12, HO12r, hid (by rw [show (RankE.d ⟨ra', rn', rc', rs', rp'⟩) = _ from HDD.out]; exact HI2.out), hid (by show rs'.length ≤ 8; rw [HRS.out]; exact HR8.out), HB12, HWS12⟩
                            case measure => simp [intOf]; omega
                · have hkz : (0 : Int) < (k : Int) := by omega
                  have hkzn : 0 < k := by omega
                  have hkd : decide ((0 : Int) < (k : Int)) = true := by simpa using hkz
                  obtain ⟨j, hj⟩ : ∃ j, k = j + 1 := ⟨k - 1, by omega⟩
                  obtain ⟨x, xb, xo, hx, hxa, hxb, hx0, _⟩ := (EvsR.old HX.out HB6.out).at_ (show j < en by omega)
                  dsimp only at hxa
                  have hxe : b1 = xb ∧ o1 = xo := by simp only [Option.some.injEq, Addr.mk.injEq, and_true] at hxa; exact hxa
                  obtain ⟨rfl, rfl⟩ := hxe
                  have HOD : Hid (orderB (es.take k) e = decide (x.t < e.t)) := hid (by rw [hj]; exact orderB_at hx)
                  have s1 : IntKind.i64.wrap ((k : Int) - 1) = (j : Int) := by rw [IntWalk.i64_in _ (by omega)]; omega
                  have hj0 : (0 : Int) ≤ (j : Int) := by omega
                  have hj1 : (j : Int) < (en : Int) := by omega
                  clear hj hk0 hx hxa
                  cases hod : decide (x.t < e.t) with
                  | false =>
                    have HFO := hid (show formB G (es.take k) e = false by unfold formB; rw [hck, htk, HOD.out, hod]; rfl)
                    have hop : e.t ≤ x.t := by simp at hod; omega
                    have e0 := HEV.out.cell (j := 0) rfl
                    have e1 := HEV.out.cell (j := 1) rfl
                    have e2 := HEV.out.cell (j := 2) rfl
                    have e3 := HEV.out.cell (j := 3) rfl
                    have e4 := HEV.out.cell (j := 4) rfl
                    have hle := HEV.out.lt
                    obtain ⟨hlg, g0, g1, g2, g3⟩ := HG.out.old HB6.out
                    have hov := over_cell w6
                    refine wp_region_over (by kernel_rfl) (by kernel_rfl) ?_
                    repeat (go_big_quiet_step ((first | (go_at_call 64; exact calls_over (calls_boo2 hck (specCommandOk_any G e.c _))) | (go_at_call 37; with_reducible exact calls_over_same (l01In_of htk)))))
                    refine wpQuiet_nil ?_
                    intro w7 B
                    have HB7 := hid (below_step HB6.out B (Nat.le_refl _))
                    have HV := hid (HV.out.old B)
                    have HEV := hid (HEV.out.old B)
                    have HO := hid (HO.out.old B)
                    have HAC := hid ((HAC.out.old B).up B.size (Nat.le_refl _))
                    clear B hov e0 e1 e2 e3 e4 g0 g1 g2 g3 hle hlg HB6
                    have HRR := hid (HTF.out.trans (HI.out.stop HE.out (chk_form HFO.out) (by decide)))
                    go_wp2_with fail
                    go_ret2
                    exact ⟨by show _ = Ending.returned (.tuple #[.int .i64 (traceFault G T es).1, .int .i64 (traceFault G T es).2]); rw [HRR.out]; rfl, HB.out.trans (HB7.out.mono HB.out.size)⟩
                  | true =>
                    have HFO := hid (show formB G (es.take k) e = true by unfold formB; rw [hck, htk, HOD.out, hod]; rfl)
                    have hop : ¬ e.t ≤ x.t := by simp at hod; omega
                    have e0 := HEV.out.cell (j := 0) rfl
                    have e1 := HEV.out.cell (j := 1) rfl
                    have e2 := HEV.out.cell (j := 2) rfl
                    have e3 := HEV.out.cell (j := 3) rfl
                    have e4 := HEV.out.cell (j := 4) rfl
                    have hle := HEV.out.lt
                    obtain ⟨hlg, g0, g1, g2, g3⟩ := HG.out.old HB6.out
                    have hov := over_cell w6
                    refine wp_region_over (by kernel_rfl) (by kernel_rfl) ?_
                    repeat (go_big_quiet_step ((first | (go_at_call 64; exact calls_over (calls_boo2 hck (specCommandOk_any G e.c _))) | (go_at_call 37; with_reducible exact calls_over_same (l01In_of htk)))))
                    refine wpQuiet_nil ?_
                    intro w7 B
                    have HB7 := hid (below_step HB6.out B (Nat.le_refl _))
                    have HV := hid (HV.out.old B)
                    have HEV := hid (HEV.out.old B)
                    have HO := hid (HO.out.old B)
                    have HAC := hid ((HAC.out.old B).up B.size (Nat.le_refl _))
                    clear B hov e0 e1 e2 e3 e4 g0 g1 g2 g3 hle hlg HB6
                    clear hx0 hxb s1 hj0 hj1
                    have HIN : Hid (inR rn e.c) := hid (inR_of (R := ⟨ra, rn, rc, rs, rp⟩) HRN.out HI.out.ok HCK.out)
                    have hrn : rn ≤ 1048576 := by have h1 := HRN.out; have h2 := HR8.out; omega
                    have e1 := HEV.out.cell (j := 1) rfl
                    have e2 := HEV.out.cell (j := 2) rfl
                    have e3 := HEV.out.cell (j := 3) rfl
                    have e4 := HEV.out.cell (j := 4) rfl
                    have v0 := HV.out.cell (j := 0) rfl
                    have v1 := HV.out.cell (j := 1) rfl
                    go_wp2_with fail
                    clear e1 e2 e3 e4 v0 v1
                    refine (l08May_any ⟨ra, rn, rc, rs, rp⟩ e.c _ HO.out.reads hrn HIN.out).mono ?_
                    rintro e' w8 ⟨rfl, B⟩
                    have HB8 := hid (below_step HB7.out B (Nat.le_refl _))
                    have HV := hid (HV.out.old B)
                    have HEV := hid (HEV.out.old B)
                    have HO := hid (HO.out.old B)
                    have HAC := hid ((HAC.out.old B).up B.size (Nat.le_refl _))
                    clear B HB7
                    cases hm : may (RankE.d ⟨ra, rn, rc, rs, rp⟩) e.c with
                    | false =>
                      have HRR := hid (HTF.out.trans (HI.out.stop HE.out (chk_may HFO.out hm) (by decide)))
                      go_wp2_with fail
                      go_ret2
                      exact ⟨by show _ = Ending.returned (.tuple #[.int .i64 (traceFault G T es).1, .int .i64 (traceFault G T es).2]); rw [HRR.out]; rfl, HB.out.trans (HB8.out.mono HB.out.size)⟩
                    | true =>
                      have HM := hid hm
                      clear hm
                      have e1 := HEV.out.cell (j := 1) rfl
                      have e2 := HEV.out.cell (j := 2) rfl
                      have e3 := HEV.out.cell (j := 3) rfl
                      have e4 := HEV.out.cell (j := 4) rfl
                      go_wp2_with fail
                      clear e1 e2 e3 e4
                      refine (l08Do_any g8 w2.heap.size g8 ⟨ra, rn, rc, rs, rp⟩ e.c _ HV.out HO.out HIN.out (.inr (Nat.le_refl _)) hrn).mono ?_
                      rintro e' w9 ⟨rfl, ⟨ra', rn', rc', rs', rp'⟩, h1, h2, h3, h4, V, O, K⟩
                      dsimp only at h1 h2 h3
                      subst h1 h2 h3
                      have HIN2 : Hid (∀ b, b = g8 ∨ blkR ⟨ra', rn', rc', rs, rp⟩ b → w2.heap.size ≤ b ∧ b < w4.heap.size) := hid (fun b hb => by
                        have hg := HG8.out
                        rcases hb with hb | hb
                        · omega
                        · have := OwnR.in_ HO.out hb; omega)
                      have HEV := hid (HEV.out.keeps K (fun hS => by have h := HIN2.out _ hS; have h2 := HGE.out; omega))
                      have HAC := hid (OwnF.up (OwnF.keeps HAC.out K (fun b hb1 hb2 hS => by have h := HIN2.out _ hS; omega)) K.size (Nat.le_refl _))
                      have HB9 := hid (HB8.out.trans (K.below HB8.out.size (fun q hq hS => by have h := HIN2.out _ hS; omega)))
                      have HV := hid V
                      have HO := hid O
                      have HDD := hid (show (⟨rs', rp'⟩ : RkD) = doR (RankE.d ⟨ra', rn', rc', rs, rp⟩) e.c from h4)
                      have HRS := hid (show rs'.length = rs.length by have h := congrArg (fun d => d.banks.length) h4; rw [doR_len] at h; exact h)
                      clear h4 V O K HIN2 HB8
                      have HXR := hid (EvsRd.take (EvsRd.old HX.out HB9.out) (k := k) hk)
                      have HBK : Hid (∀ x ∈ es.take k, bkOk G x.c) := hid (fun x hx => bkOk_of (HI.out.cmds x hx))
                      have HTT := hid HI.out.times
                      have HBE := hid (bkOk_of HCK.out)
                      have HCE := hid (close_earl (G := G) (T := T) (es := es.take k) (V := e) htb.1)
                      obtain ⟨cl, hcl⟩ : ∃ b, closeB G T (es.take k) e = b := ⟨_, rfl⟩
                      have HCL := hid hcl
                      clear hcl
                      go_upto_region 14 with (fail)
                      have e0 := HEV.out.cell (j := 0) rfl
                      have e1 := HEV.out.cell (j := 1) rfl
                      have e2 := HEV.out.cell (j := 2) rfl
                      have e3 := HEV.out.cell (j := 3) rfl
                      have e4 := HEV.out.cell (j := 4) rfl
                      have hle := HEV.out.lt
                      obtain ⟨hlg, g0, g1, g2, g3⟩ := HG.out.old HB9.out
                      have HT3 := hid (HT.out.old HB9.out)
                      have hov := over_cell w9
                      refine wp_region_over (by kernel_rfl) (by kernel_rfl) ?_
                      repeat (first | (refine wpQuiet_load_tim (by rintro _ ⟨t, rfl⟩; exact HT3.out.old t.below) rfl _ (by rfl) (by rfl) ?_; simp only [Act.put, List.setIfInBounds_toArray, List.set_cons_succ, List.set_cons_zero]) | go_big_quiet_step ((go_at_call 65; exact calls_over (calls_boo2 HCL.out (l09Close_any G T ⟨some ⟨b1, o1, none⟩, k, ec, es.take k⟩ e _ (EvsRd.old HXR.out (Over.below _)) (Nat.le_trans (Nat.le_of_lt hlt) hn) HTO.out HGO.out HTT.out HBK.out HBE.out HTK.out)))))
                      refine wpQuiet_nil ?_
                      intro w10 B
                      have HB10 := hid (below_step HB9.out B (Nat.le_refl _))
                      have HV := hid (HV.out.old B)
                      have HEV := hid (HEV.out.old B)
                      have HO := hid (HO.out.old B)
                      have HAC := hid ((HAC.out.old B).up B.size (Nat.le_refl _))
                      clear B hov e0 e1 e2 e3 e4 g0 g1 g2 g3 hle hlg HB9 HT3 HXR
                      have HCE := hid (HCE.out.symm.trans HCL.out)
                      cases cl with
                      | true =>
                        have HRR := hid (HTF.out.trans (HI.out.stop HE.out (chk_gap HFO.out HM.out HCE.out) (by decide)))
                        go_wp2_with fail
                        go_ret2
                        exact ⟨by show _ = Ending.returned (.tuple #[.int .i64 (traceFault G T es).1, .int .i64 (traceFault G T es).2]); rw [HRR.out]; rfl, HB.out.trans (HB10.out.mono HB.out.size)⟩
                      | false =>
                        have e1 := HEV.out.cell (j := 1) rfl
                        cases hk1 : (e.c.k == 1) with
                        | false =>
                          have HFW := hid (show (e.c.k == 1 && decide (e.t < fawT T (es.take k))) = false by rw [hk1]; rfl)
                          have HI2 := hid (HI.out.step HE.out HFO.out HM.out (chk_ok HFO.out HM.out HCE.out HFW.out))
                          have HA2 := hid (actsOf_at HE.out)
                          rw [hk1] at HA2
                          go_wp2_with fail
                          go_roundw
                          case rel => exact ⟨k + 1, m, c, a, ⟨ra', rn', rc', rs', rp'⟩, by omega, by go_num, rfl, hid (by rw [HA2.out]; simpa using HAC.out), HV, HO, hid (by rw [show (RankE.d ⟨ra', rn', rc', rs', rp'⟩) = _ from HDD.out]; exact HI2.out), hid (by show rs'.length ≤ 8; rw [HRS.out]; exact HR8.out), HB10, hid (by have h1 := HGE.out.1; have h2 := HEV.out.lt; omega)⟩
                          case measure => simp [intOf]; omega
                        | true =>
                          have HA2 := hid (actsOf_at HE.out)
                          rw [hk1] at HA2
                          have HML : Hid (m = (actsOf (es.take k)).length) := hid (OwnF.length encN_len (by decide) HAC.out)
                          have HWS10 : Hid (w4.heap.size ≤ w10.heap.size) := hid (by have h1 := HGE.out.1; have h2 := HEV.out.lt; omega)
                          have hmk : m ≤ 1048576 := by
                            have h1 := HML.out
                            have h2 := actsOf_len (es.take k)
                            rw [List.length_take] at h2
                            omega
                          by_cases h4 : m < 4
                          · have h4i : (m : Int) < 4 := by omega
                            have h4d : decide ((4 : Int) ≤ (m : Int)) = false := by simp; omega
                            have h4e : ¬ (4 : Int) ≤ (m : Int) := by omega
                            have HFW := hid (show (e.c.k == 1 && decide (e.t < fawT T (es.take k))) = false by rw [hk1, fawT_few (by rw [← HML.out]; exact h4)]; simp; exact htb.1)
                            go_upto_region 17 with (fail)
                            clear e1
                            have e0 := HEV.out.cell (j := 0) rfl
                            have hle := HEV.out.lt
                            have HT3 := hid (HT.out.old HB10.out)
                            have t5 := HT3.out.cs 5 _ rfl
                            have htl := HT3.out.lt
                            have hov := over_cell w10
                            refine wp_region_over (by kernel_rfl) (by kernel_rfl) ?_
                            repeat (go_big_quiet_step (fail))
                            refine wpQuiet_nil ?_
                            intro w11 B
                            have HB11 := hid (below_step HB10.out B (Nat.le_refl _))
                            have HV := hid (HV.out.old B)
                            have HEV := hid (HEV.out.old B)
                            have HO := hid (HO.out.old B)
                            have HAC := hid ((HAC.out.old B).up B.size (Nat.le_refl _))
                            have HWS11 := hid (Nat.le_trans HWS10.out B.size)
                            clear B hov e0 t5 hle htl HT3 HB10
                            have HI2 := hid (HI.out.step HE.out HFO.out HM.out (chk_ok HFO.out HM.out HCE.out HFW.out))
                            have e0 := HEV.out.cell (j := 0) rfl
                            go_upto_region 7 with (at_builtin; refine wpList_append_rec recN rfl _ _ rfl w11 w4.heap.size _ a m c (actsOf (es.take k)) HAC.out (by simp [go_sem]) e.t _ rfl (by simp [go_sem]) HWS11.out (by omega) ?_; intro a2 c2 w12 O12 K12; have HK12 := hid K12; have HO12 := hid O12; clear K12 O12 e0)
                            have HIN3 : Hid (∀ b, (Value.slice a m c).ownBlock = some b → w4.heap.size ≤ b) := hid (fun b hb => (HAC.out.row.lt b hb).1)
                            have HV12 := hid (HV.out.keeps HK12.out (fun hS => by have h := HIN3.out _ hS; have h2 := HG8.out; omega))
                            have HO12r := hid (OwnF.keeps HO.out HK12.out (fun b hb1 hb2 hS => by have h := HIN3.out _ hS; have h2 := HG8.out; omega))
                            have HB12 := hid (HB11.out.trans (HK12.out.below HB11.out.size (fun q hq hS => by have h := HIN3.out _ hS; have h2 := HG8.out; omega)))
                            have HWS12 := hid (Nat.le_trans HWS11.out HK12.out.size)
                            clear HK12 HIN3
                            go_wp2_with fail
                            go_roundw
                            case rel => exact ⟨k + 1, m + 1, c2, a2, ⟨ra', rn', rc', rs', rp'⟩, by omega, by go_num, rfl, hid (by rw [HA2.out]; exact HO12.out), HV12, HO12r, hid (by rw [show (RankE.d ⟨ra', rn', rc', rs', rp'⟩) = _ from HDD.out]; exact HI2.out), hid (by show rs'.length ≤ 8; rw [HRS.out]; exact HR8.out), HB12, HWS12⟩
                            case measure => simp [intOf]; omega
                          · have h4e : (4 : Int) ≤ (m : Int) := by omega
                            have h4d : decide ((4 : Int) ≤ (m : Int)) = true := by simp; omega
                            obtain ⟨j, hj⟩ : ∃ j, m = j + 4 := ⟨m - 4, by omega⟩
                            obtain ⟨x, hx⟩ := some_at (xs := actsOf (es.take k)) HML.out (show j < m by omega)
                            have hxb := actsOf_times HTT.out x (List.mem_of_getElem? hx)
                            obtain ⟨ab, ao, hab, hab1, hxc⟩ := RecR.ints (OwnF.reads encN_len (by decide) HAC.out) j x hx
                            have HVF := hid (show fawT T (es.take k) = x + T.t5 by
                              unfold fawT
                              rw [if_neg (by rw [← HML.out]; exact h4), ← HML.out, show m - 4 = j by omega, List.getD_eq_getElem?_getD, hx]; rfl)
                            have s1 : IntKind.i64.wrap ((m : Int) - 4) = (j : Int) := by rw [IntWalk.i64_in _ (by omega)]; omega
                            have s2 : IntKind.i64.wrap (e.t - x) = e.t - x := IntWalk.i64_in _ (by omega)
                            have hj0 : (0 : Int) ≤ (j : Int) := by omega
                            have hj1 : (j : Int) < (m : Int) := by omega
                            clear hx hj h4
                            subst hab
                            cases hfd : decide (e.t - x < T.t5) with
                            | true =>
                              have HFW := hid (show (e.c.k == 1 && decide (e.t < fawT T (es.take k))) = true by rw [hk1, HVF.out]; simp at hfd ⊢; omega)
                              have hfp : e.t - x < T.t5 := by simpa using hfd
                              go_upto_region 17 with (fail)
                              clear e1
                              have e0 := HEV.out.cell (j := 0) rfl
                              have hle := HEV.out.lt
                              have HT3 := hid (HT.out.old HB10.out)
                              have t5 := HT3.out.cs 5 _ rfl
                              have htl := HT3.out.lt
                              have hov := over_cell w10
                              refine wp_region_over (by kernel_rfl) (by kernel_rfl) ?_
                              repeat (go_big_quiet_step (fail))
                              refine wpQuiet_nil ?_
                              intro w11 B
                              have HB11 := hid (below_step HB10.out B (Nat.le_refl _))
                              have HV := hid (HV.out.old B)
                              have HEV := hid (HEV.out.old B)
                              have HO := hid (HO.out.old B)
                              have HAC := hid ((HAC.out.old B).up B.size (Nat.le_refl _))
                              have HWS11 := hid (Nat.le_trans HWS10.out B.size)
                              clear B hov e0 t5 hle htl HT3 HB10
                              have HRR := hid (HTF.out.trans (HI.out.stop HE.out (chk_faw HFO.out HM.out HCE.out HFW.out) (by decide)))
                              go_wp2_with fail
                              go_ret2
                              exact ⟨by show _ = Ending.returned (.tuple #[.int .i64 (traceFault G T es).1, .int .i64 (traceFault G T es).2]); rw [HRR.out]; rfl, HB.out.trans (HB11.out.mono HB.out.size)⟩
                            | false =>
                              have HFW := hid (show (e.c.k == 1 && decide (e.t < fawT T (es.take k))) = false by rw [hk1, HVF.out]; simp at hfd ⊢; omega)
                              have hfp : ¬ e.t - x < T.t5 := by simpa using hfd
                              go_upto_region 17 with (fail)
                              clear e1
                              have e0 := HEV.out.cell (j := 0) rfl
                              have hle := HEV.out.lt
                              have HT3 := hid (HT.out.old HB10.out)
                              have t5 := HT3.out.cs 5 _ rfl
                              have htl := HT3.out.lt
                              have hov := over_cell w10
                              refine wp_region_over (by kernel_rfl) (by kernel_rfl) ?_
                              repeat (go_big_quiet_step (fail))
                              refine wpQuiet_nil ?_
                              intro w11 B
                              have HB11 := hid (below_step HB10.out B (Nat.le_refl _))
                              have HV := hid (HV.out.old B)
                              have HEV := hid (HEV.out.old B)
                              have HO := hid (HO.out.old B)
                              have HAC := hid ((HAC.out.old B).up B.size (Nat.le_refl _))
                              have HWS11 := hid (Nat.le_trans HWS10.out B.size)
                              clear B hov e0 t5 hle htl HT3 HB10
                              clear hxc s1 s2 hj0 hj1
                              have HI2 := hid (HI.out.step HE.out HFO.out HM.out (chk_ok HFO.out HM.out HCE.out HFW.out))
                              have e0 := HEV.out.cell (j := 0) rfl
                              go_upto_region 7 with (at_builtin; refine wpList_append_rec recN rfl _ _ rfl w11 w4.heap.size _ (some ⟨ab, ao, none⟩) m c (actsOf (es.take k)) HAC.out (by simp [go_sem]) e.t _ rfl (by simp [go_sem]) HWS11.out (by omega) ?_; intro a2 c2 w12 O12 K12; have HK12 := hid K12; have HO12 := hid O12; clear K12 O12 e0)
                              have HIN3 : Hid (∀ b, (Value.slice (some ⟨ab, ao, none⟩) m c).ownBlock = some b → w4.heap.size ≤ b) := hid (fun b hb => (HAC.out.row.lt b hb).1)
                              have HV12 := hid (HV.out.keeps HK12.out (fun hS => by have h := HIN3.out _ hS; have h2 := HG8.out; omega))
                              have HO12r := hid (OwnF.keeps HO.out HK12.out (fun b hb1 hb2 hS => by have h := HIN3.out _ hS; have h2 := HG8.out; omega))
                              have HB12 := hid (HB11.out.trans (HK12.out.below HB11.out.size (fun q hq hS => by have h := HIN3.out _ hS; have h2 := HG8.out; omega)))
                              have HWS12 := hid (Nat.le_trans HWS11.out HK12.out.size)
                              clear HK12 HIN3
                              go_wp2_with fail
                              go_roundw
                              case rel => exact ⟨k + 1, m + 1, c2, a2, ⟨ra', rn', rc', rs', rp'⟩, by omega, by go_num, rfl, hid (by rw [HA2.out]; exact HO12.out), HV12, HO12r, hid (by rw [show (RankE.d ⟨ra', rn', rc', rs', rp'⟩) = _ from HDD.out]; exact HI2.out), hid (by show rs'.length ≤ 8; rw [HRS.out]; exact HR8.out), HB12, HWS12⟩
                              case measure => simp [intOf]; omega
end Go.Proofs.YtggjheapjklhgaaDoor
