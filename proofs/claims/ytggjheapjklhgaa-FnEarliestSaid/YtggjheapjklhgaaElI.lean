/- EarliestNext: what the program's returns. -/
import Derived.Test.YtggjheapjklhgaaElP
import Derived.Test.YtggjheapjklhgaaTfI
namespace Go.Proofs.Ytggjheapjklhgaa
open Go.RowKit
set_option maxHeartbeats 8000000 in
set_option maxRecDepth 100000 in
theorem implEarliestNext_any (G : Geo) (T : Tim) (E : EvsE) (C : Cmd) (w : World) (hE : EvsRd w E) (hn : E.n ≤ 1048576) (hcap : E.n ≤ E.c) :
    Calls Try.prog 23 #[.agg #[.int .i64 G.a, .int .i64 G.b, .int .i64 G.r, .int .i64 G.c], .agg #[.int .i64 T.t0, .int .i64 T.t1, .int .i64 T.t2, .int .i64 T.t3, .int .i64 T.t4, .int .i64 T.t5, .int .i64 T.t6, .int .i64 T.t7, .int .i64 T.t8, .int .i64 T.t9, .int .i64 T.t10, .int .i64 T.t11, .int .i64 T.t12, .int .i64 T.t13, .int .i64 T.t14, .int .i64 T.t15, .int .i64 T.t16], .slice E.a E.n E.c, .agg #[.int .i64 C.k, .int .i64 C.b, .int .i64 C.r, .int .i64 C.c]] w fun e w' => e = .returned (.int .i64 (earliestNext G T E.d C)) ∧ Below w.heap.size w w' := by
  obtain ⟨ea, en, ec, es⟩ := E
  have HL : Hid (en = es.length) := hid (EvsRd.len hE)
  have HX0 := hid hE
  dsimp only at hn hcap
  clear hE
  have HG0 := hid (((BoxG.new_ w 25 G rfl).old (below_alloc _ (.cells #[.int .i64 T.t0, .int .i64 T.t1, .int .i64 T.t2, .int .i64 T.t3, .int .i64 T.t4, .int .i64 T.t5, .int .i64 T.t6, .int .i64 T.t7, .int .i64 T.t8, .int .i64 T.t9, .int .i64 T.t10, .int .i64 T.t11, .int .i64 T.t12, .int .i64 T.t13, .int .i64 T.t14, .int .i64 T.t15, .int .i64 T.t16] 27))).old (below_alloc _ (.cells #[.int .i64 C.k, .int .i64 C.b, .int .i64 C.r, .int .i64 C.c] 32)))
  have HT0 := hid ((BoxT.new_ (w.alloc (.cells #[.int .i64 G.a, .int .i64 G.b, .int .i64 G.r, .int .i64 G.c] 25)) 27 T (show _ = w.heap.size + 1 by simp)).old (below_alloc _ (.cells #[.int .i64 C.k, .int .i64 C.b, .int .i64 C.r, .int .i64 C.c] 32)))
  have HC0 := hid (BoxC.new_ ((w.alloc (.cells #[.int .i64 G.a, .int .i64 G.b, .int .i64 G.r, .int .i64 G.c] 25)).alloc (.cells #[.int .i64 T.t0, .int .i64 T.t1, .int .i64 T.t2, .int .i64 T.t3, .int .i64 T.t4, .int .i64 T.t5, .int .i64 T.t6, .int .i64 T.t7, .int .i64 T.t8, .int .i64 T.t9, .int .i64 T.t10, .int .i64 T.t11, .int .i64 T.t12, .int .i64 T.t13, .int .i64 T.t14, .int .i64 T.t15, .int .i64 T.t16] 27)) 32 C (show _ = w.heap.size + 1 + 1 by simp))
  have HBB := hid (below_alloc3 w (.cells #[.int .i64 G.a, .int .i64 G.b, .int .i64 G.r, .int .i64 G.c] 25) (.cells #[.int .i64 T.t0, .int .i64 T.t1, .int .i64 T.t2, .int .i64 T.t3, .int .i64 T.t4, .int .i64 T.t5, .int .i64 T.t6, .int .i64 T.t7, .int .i64 T.t8, .int .i64 T.t9, .int .i64 T.t10, .int .i64 T.t11, .int .i64 T.t12, .int .i64 T.t13, .int .i64 T.t14, .int .i64 T.t15, .int .i64 T.t16] 27) (.cells #[.int .i64 C.k, .int .i64 C.b, .int .i64 C.r, .int .i64 C.c] 32))
  go_enter Try.func23, Try.ntmps23
  go_upto_region 1 with (fail)
  refine wp_world (fun W hw => ?_)
  have HG : Hid (BoxG W w.heap.size G) := by rw [hw.out]; exact HG0
  have HT : Hid (BoxT W (w.heap.size + 1) T) := by rw [hw.out]; exact HT0
  have HC : Hid (BoxC W (w.heap.size + 1 + 1) C) := by rw [hw.out]; exact HC0
  have HB : Hid (Below w.heap.size w W) := by rw [hw.out]; exact HBB
  have HX := hid (EvsRd.old HX0.out HB.out)
  clear hw HG0 HT0 HC0 HBB HX0
  obtain ⟨fc, hfc⟩ : ∃ c, (traceFault G T es).1 = c := ⟨_, rfl⟩
  obtain ⟨fi, hfi⟩ : ∃ c, (traceFault G T es).2 = c := ⟨_, rfl⟩
  have HFC := hid hfc
  have HFI := hid hfi
  clear hfc hfi
  obtain ⟨_, g0, g1, g2, g3⟩ := HG.out
  go_wp2_with (refine wpList_load_tim HT.out rfl _ (by rfl) (by rfl) ?_)
  clear g0 g1 g2 g3
  refine (implTraceFault_any G T ⟨ea, en, ec, es⟩ _ HX.out hn hcap).mono ?_
  rintro e w1 ⟨rfl, B⟩
  rw [show (traceFault G T (EvsE.d ⟨ea, en, ec, es⟩)).1 = fc from HFC.out, show (traceFault G T (EvsE.d ⟨ea, en, ec, es⟩)).2 = fi from HFI.out]
  have HG := hid (HG.out.old B)
  have HT := hid (HT.out.old B)
  have HC := hid (HC.out.old B)
  have HB := hid (below_step HB.out B (Nat.le_refl _))
  have HX := hid (EvsRd.old HX.out B)
  clear B
  cases h0 : (fc == 0) with
  | false =>
    have h0n : (fc != 0) = true := by simp [bne, h0]
    have h0m : ¬ fc = 0 := by simpa using h0
    have HRR := hid (earliestNext_no (G := G) (T := T) (C := C) (nextB_code (by rw [HFC.out]; exact h0)))
    go_wp2_with fail
    go_ret
    exact ⟨by show _ = Ending.returned (.int .i64 (earliestNext G T es C)); rw [HRR.out]; rfl, HB.out⟩
  | true =>
    have h0n : (fc != 0) = false := by simp [bne, h0]
    have h0m : fc = 0 := by simpa using h0
    have HNF := hid (NoFault.of (HFC.out.trans h0m))
    have HF0 := hid (show ((traceFault G T es).1 == 0) = true by rw [HFC.out]; exact h0)
    subst h0m
    by_cases h2 : en < 2000
    rotate_left
    · have h2i : (2000 : Int) ≤ (en : Int) := by omega
      have h2n : 2000 ≤ en := by omega
      have HRR := hid (earliestNext_no (G := G) (T := T) (C := C) (nextB_len (by rw [← HL.out]; exact h2)))
      go_wp2_with fail
      go_ret
      exact ⟨by show _ = Ending.returned (.int .i64 (earliestNext G T es C)); rw [HRR.out]; rfl, HB.out⟩
    · have h2i : ¬ (2000 : Int) ≤ (en : Int) := by omega
      have h2n : ¬ 2000 ≤ en := by omega
      have H2L := hid (show es.length < 2000 by rw [← HL.out]; exact h2)
      go_upto_region 4 with (fail)
      clear h0 h0n h2i h2n h2
      obtain ⟨_, g0, g1, g2, g3⟩ := HG.out
      go_wp2_with fail
      clear g0 g1 g2 g3
      refine (implTraceEnd_any G ⟨ea, en, ec, es⟩ _ HX.out hn).mono ?_
      rintro e w2 ⟨⟨ra, rn, rc, rs, rp⟩, rfl, O, D, B⟩
      have HO := hid O
      have HD := hid D
      have HR8 := hid (show rs.length ≤ 8 by have h := traceEnd_len G es; rw [← show (RankE.d ⟨ra, rn, rc, rs, rp⟩) = (traceEnd G es).1 from D] at h; exact h)
      have HG := hid (HG.out.old B)
      have HT := hid (HT.out.old B)
      have HC := hid (HC.out.old B)
      have HB := hid (below_step HB.out B (Nat.le_refl _))
      have HX := hid (EvsRd.old HX.out B)
      clear O D B
      go_upto_region 5 with (fail)
      refine wp_world (fun w3 hw => ?_)
      have HV : Hid (Blk w3 w2.heap.size 41 [.slice ra rn rc, .int .i64 rp]) := by rw [hw.out]; exact hid (Blk.new _ _ _)
      have B : Below w2.heap.size w2 w3 := by rw [hw.out]; exact below_alloc _ _
      clear hw
      have HG := hid (HG.out.old B)
      have HT := hid (HT.out.old B)
      have HC := hid (HC.out.old B)
      have HB := hid (below_step HB.out B (Nat.le_refl _))
      have HX := hid (EvsRd.old HX.out B)
      have HO := hid ((HO.out.old B).reads)
      clear B
      generalize w2.heap.size = g11 at HV ⊢
      obtain ⟨_, g0, g1, g2, g3⟩ := HG.out
      obtain ⟨_, k0, k1, k2, k3⟩ := HC.out
      have v0 := HV.out.cell (j := 0) rfl
      have v1 := HV.out.cell (j := 1) rfl
      go_wp2_with fail
      clear g0 g1 g2 g3 k0 k1 k2 k3 v0 v1
      refine (implAllowed_any G ⟨ra, rn, rc, rs, rp⟩ C _ HO.out (by have h1 := HO.out.len; have h2 := HR8.out; dsimp only at h1; show rn ≤ _; omega)).mono ?_
      rintro e w4 ⟨rfl, B⟩
      have HG := hid (HG.out.old B)
      have HT := hid (HT.out.old B)
      have HC := hid (HC.out.old B)
      have HB := hid (below_step HB.out B (Nat.le_refl _))
      have HX := hid (EvsRd.old HX.out B)
      clear B HV
      rw [show (RankE.d ⟨ra, rn, rc, rs, rp⟩) = (traceEnd G es).1 from HD.out]
      cases hal : allowed G (traceEnd G es).1 C with
      | false =>
        have HRR := hid (earliestNext_no (G := G) (T := T) (C := C) (nextB_may hal))
        go_wp2_with fail
        go_ret
        exact ⟨by show _ = Ending.returned (.int .i64 (earliestNext G T es C)); rw [HRR.out]; rfl, HB.out⟩
      | true =>
        have HNX := hid (nextB_yes HF0.out H2L.out hal)
        clear hal
        obtain ⟨_, g0, g1, g2, g3⟩ := HG.out
        obtain ⟨_, k0, k1, k2, k3⟩ := HC.out
        go_wp2_with (refine wpList_load_tim HT.out rfl _ (by rfl) (by rfl) ?_)
        clear g0 g1 g2 g3 k0 k1 k2 k3
        refine (earliest_any G T ⟨ea, en, ec, es⟩ C _ HX.out hn HNF.out.tim HNF.out.times).mono ?_
        rintro e w5 ⟨rfl, B⟩
        have HG := hid (HG.out.old B)
        have HT := hid (HT.out.old B)
        have HC := hid (HC.out.old B)
        have HB := hid (below_step HB.out B (Nat.le_refl _))
        have HX := hid (EvsRd.old HX.out B)
        clear B
        obtain ⟨m, hm⟩ : ∃ m, earl G T es C = m := ⟨_, rfl⟩
        rw [show earl G T (EvsE.es ⟨ea, en, ec, es⟩) C = m from hm]
        have HM := hid hm
        clear hm
        obtain ⟨_, k0, k1, k2, k3⟩ := HC.out
        cases hk1 : (C.k == 1) with
        | false =>
          have HAT := hid (earlAll_no hk1 HM.out)
          have HRY := hid (earliestNext_yes HNX.out)
          rw [HAT.out] at HRY
          by_cases hlim : 1000000 < m
          · have HRR := hid (HRY.out.trans (if_pos hlim))
            go_wp2_with fail
            go_ret
            exact ⟨by show _ = Ending.returned (.int .i64 (earliestNext G T es C)); rw [HRR.out]; rfl, HB.out⟩
          · have HRR := hid (HRY.out.trans (if_neg hlim))
            go_wp2_with fail
            go_ret
            exact ⟨by show _ = Ending.returned (.int .i64 (earliestNext G T es C)); rw [HRR.out]; rfl, HB.out⟩
        | true =>
          go_wp2_with (refine wpList_load_tim HT.out rfl _ (by rfl) (by rfl) ?_)
          refine (fawTime_any T ⟨ea, en, ec, es⟩ _ HX.out hn HNF.out.tim HNF.out.times).mono ?_
          rintro e w6 ⟨rfl, B⟩
          have HB := hid (below_step HB.out B (Nat.le_refl _))
          clear B k0 k1 k2 k3
          obtain ⟨f, hf⟩ : ∃ f, fawT T es = f := ⟨_, rfl⟩
          rw [show fawT T (EvsE.es ⟨ea, en, ec, es⟩) = f from hf]
          have HAL := hid (earlAll_yes hk1 HM.out hf)
          clear hf
          by_cases hmf : m < f
          · have HAT := hid (HAL.out.trans (show mx m f = f by unfold mx; rw [if_pos hmf]))
            have HAT := hid (HAT.out)
            have HRY := hid (earliestNext_yes HNX.out)
            rw [HAT.out] at HRY
            by_cases hlim : 1000000 < f
            · have HRR := hid (HRY.out.trans (if_pos hlim))
              go_wp2_with fail
              go_ret
              exact ⟨by show _ = Ending.returned (.int .i64 (earliestNext G T es C)); rw [HRR.out]; rfl, HB.out⟩
            · have HRR := hid (HRY.out.trans (if_neg hlim))
              go_wp2_with fail
              go_ret
              exact ⟨by show _ = Ending.returned (.int .i64 (earliestNext G T es C)); rw [HRR.out]; rfl, HB.out⟩
          · have HAT := hid (HAL.out.trans (show mx m f = m by unfold mx; rw [if_neg hmf]))
            have HAT := hid (HAT.out)
            have HRY := hid (earliestNext_yes HNX.out)
            rw [HAT.out] at HRY
            by_cases hlim : 1000000 < m
            · have HRR := hid (HRY.out.trans (if_pos hlim))
              go_wp2_with fail
              go_ret
              exact ⟨by show _ = Ending.returned (.int .i64 (earliestNext G T es C)); rw [HRR.out]; rfl, HB.out⟩
            · have HRR := hid (HRY.out.trans (if_neg hlim))
              go_wp2_with fail
              go_ret
              exact ⟨by show _ = Ending.returned (.int .i64 (earliestNext G T es C)); rw [HRR.out]; rfl, HB.out⟩
end Go.Proofs.Ytggjheapjklhgaa
