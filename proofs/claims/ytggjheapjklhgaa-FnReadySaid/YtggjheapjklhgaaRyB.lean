/- ReadyAfter: what the program's returns. -/
import Derived.Test.YtggjheapjklhgaaRyA
namespace Go.Proofs.Ytggjheapjklhgaa
open Go.RowKit
set_option maxHeartbeats 8000000 in
set_option maxRecDepth 100000 in
theorem implReadyAfter_any (G : Geo) (Y : RdyE) (V : Ev) (w : World) (hY : RdyR w Y) (hs : Y.small) :
    Calls Try.prog 30 #[.agg #[.int .i64 G.a, .int .i64 G.b, .int .i64 G.r, .int .i64 G.c], .agg #[.slice Y.s0.a Y.s0.n Y.s0.c, .slice Y.s1.a Y.s1.n Y.s1.c], .agg #[.int .i64 V.t, .int .i64 V.c.k, .int .i64 V.c.b, .int .i64 V.c.r, .int .i64 V.c.c]] w fun e w' => ∃ Y' : RdyE, e = .returned (.agg #[.slice Y'.s0.a Y'.s0.n Y'.s0.c, .slice Y'.s1.a Y'.s1.n Y'.s1.c]) ∧ OwnY w' w.heap.size w'.heap.size Y' ∧ Y'.d = readyAfter G Y.d V ∧ Below w.heap.size w w' := by
  have HX := hid hY
  have HSM := hid hs
  have HEV0 := hid (BoxEv.new_ ((w.alloc (.cells #[.int .i64 G.a, .int .i64 G.b, .int .i64 G.r, .int .i64 G.c] 25)).alloc (.cells #[.slice Y.s0.a Y.s0.n Y.s0.c, .slice Y.s1.a Y.s1.n Y.s1.c] 37)) 58 V (show _ = w.heap.size + 2 by simp))
  clear hY hs
  go_enter Try.func30, Try.ntmps30
  go_upto_region 1 with (fail)
  refine wp_world (fun W hw => ?_)
  have HG : Hid (BoxG W w.heap.size G) := by rw [hw.out]; exact hid ((((BoxG.new_ w 25 G rfl).old (below_alloc _ _)).old (below_alloc _ _)).old (below_alloc _ _))
  have HK : Hid (BoxY W (w.heap.size + 1) Y) := by rw [hw.out]; exact hid (((BoxY.new_ (w.alloc (.cells #[.int .i64 G.a, .int .i64 G.b, .int .i64 G.r, .int .i64 G.c] 25)) 37 Y (show _ = w.heap.size + 1 by simp)).old (below_alloc _ _)).old (below_alloc _ _))
  have HE : Hid (BoxEv W (w.heap.size + 2) V) := by rw [hw.out]; exact hid (HEV0.out.old (below_alloc _ _))
  have HT : Hid (Blk W (w.heap.size + 3) 37 [.slice none 0 0, .slice none 0 0]) := by rw [hw.out]; exact hid (by simpa using Blk.new (((w.alloc (.cells #[.int .i64 G.a, .int .i64 G.b, .int .i64 G.r, .int .i64 G.c] 25)).alloc (.cells #[.slice Y.s0.a Y.s0.n Y.s0.c, .slice Y.s1.a Y.s1.n Y.s1.c] 37)).alloc (.cells #[.int .i64 V.t, .int .i64 V.c.k, .int .i64 V.c.b, .int .i64 V.c.r, .int .i64 V.c.c] 58)) 37 [.slice none 0 0, .slice none 0 0])
  have HB : Hid (Below w.heap.size w W) := by rw [hw.out]; exact hid (below_allocs4 _ _ _ _ _)
  have HSW : Hid (W.heap.size = w.heap.size + 4) := by rw [hw.out]; exact hid (by simp)
  have HX := hid (HX.out.old HB.out)
  clear hw HEV0
  obtain ⟨_, y0, y1⟩ := HK.out
  go_wp2_with fail
  clear y0 y1
  refine (copyReady_any Y _ HX.out HSM.out).mono ?_
  rintro e w2 ⟨⟨⟨a0, n0, c0⟩, ⟨a1, n1, c1⟩, la, ac⟩, rfl, O, D, B, OF, hz1⟩
  obtain ⟨d1, d2⟩ := RdyD.parts D
  have d1' : la = Y.last := d1
  have d2' : ac = Y.acts := d2
  subst d1'
  subst d2'
  have HO := hid O
  have HOF := hid OF
  have HZ1 : Hid (n1 = 0 → c1 = 0) := hid hz1
  have HLO : Hid (W.heap.size = w.heap.size + 4 ∧ W.heap.size ≤ w2.heap.size) := hid ⟨HSW.out, B.size⟩
  have HG := hid (HG.out.old B)
  have HK := hid (HK.out.old B)
  have HE := hid (HE.out.old B)
  have HT := hid (HT.out.old B)
  have HB := hid (below_step HB.out B (Nat.le_refl _))
  have HX := hid (HX.out.old B)
  clear D O B OF d1 d2 hz1
  go_upto_region 2 with (fail)
  refine wp_world (fun w3 hw => ?_)
  have HV : Hid (Blk w3 w2.heap.size 37 [.slice a0 n0 c0, .slice a1 n1 c1]) := by rw [hw.out]; exact hid (Blk.new _ _ _)
  have B : Below w2.heap.size w2 w3 := by rw [hw.out]; exact below_alloc _ _
  clear hw
  obtain ⟨g7, hg7⟩ : ∃ g7, g7 = w2.heap.size := ⟨_, rfl⟩
  rw [← hg7] at HV HLO HO HOF
  have HG := hid (HG.out.old B)
  have HK := hid (HK.out.old B)
  have HE := hid (HE.out.old B)
  have HT := hid (HT.out.old B)
  have HB := hid (below_step HB.out B (Nat.le_refl _))
  have HX := hid (HX.out.old B)
  have HO := hid (HO.out.old B)
  have HOF := hid (OwnF.old HOF.out B)
  rw [← hg7]
  have HLN : Hid (g7 ≤ w3.heap.size) := hid (by rw [hg7]; exact B.size)
  clear B hg7
  have HL0 : Hid (n0 = Y.last.length) := hid HO.out.last.length
  have HL1 : Hid (n1 = Y.acts.length) := hid HO.out.acts.length
  obtain ⟨vt, kk, kb, kr, kc⟩ := V
  dsimp only at HE ⊢
  obtain ⟨_, e0, e1, e2, e3, e4⟩ := HE.out
  obtain ⟨_, y0, y1⟩ := HK.out
  have HN1 := hid HX.out.l1
  go_upto_region 4 with (fail)
  clear e0 e1 e2 e3 e4 y0 y1
  cases hrk : readyOk G Y.d with
  | false =>
    have HNO := hid (goY_rk (V := ⟨vt, ⟨kk, kb, kr, kc⟩⟩) hrk)
    obtain ⟨hle, e0, e1, e2, e3, e4⟩ := HE.out
    obtain ⟨hly, y0, y1⟩ := HK.out
    obtain ⟨hlg, g0, g1, g2, g3⟩ := HG.out
    have hov := over_cell w3
    refine wp_region_over (by kernel_rfl) (by kernel_rfl) ?_
    repeat (go_big_quiet_step ((first | (go_at_call 22; exact calls_over (calls_bool hrk ((implReadyOk_any G Y _ (HX.out.old (Over.below _)) HSM.out)))) | (go_at_call 84; exact calls_over (calls_bool hck (implCommandOk_any G ⟨kk, kb, kr, kc⟩ _))) | (go_at_call 81; with_reducible exact calls_over_same (between_of htk)))))
    refine wpQuiet_nil ?_
    intro w6 B
    have HT := hid (HT.out.old B)
    have HB := hid (below_step HB.out B (Nat.le_refl _))
    have HO := hid (HO.out.old B)
    have HOF := hid (OwnF.old HOF.out B)
    have HV := hid (HV.out.old B)
    have HE := hid (HE.out.old B)
    have HG := hid (HG.out.old B)
    have HK := hid (HK.out.old B)
    have HX := hid (HX.out.old B)
    clear B hov e0 e1 e2 e3 e4 y0 y1 g0 g1 g2 g3 hle hly hlg
    have z0 : w6.cell? ⟨g7, 0, none⟩ = some (.slice a0 n0 c0) := HV.out.cell (j := 0) rfl
    have z1 : w6.cell? ⟨g7, 1, none⟩ = some (.slice a1 n1 c1) := HV.out.cell (j := 1) rfl
    have d0 := HT.out.cell (j := 0) rfl
    have d1 := HT.out.cell (j := 1) rfl
    have f0 := HT.out.frozen 0
    have f1 := HT.out.frozen 1
    have HKK := hid (stored2 w6 (w.heap.size + 3) (.slice a0 n0 c0) (.slice a1 n1 c1))
    go_wp2_with fail
    refine bodyPost_ret (v := .agg #[.slice a0 n0 c0, .slice a1 n1 c1]) (by simp [results, Try.results30, go_sem, d0, d1]) rfl ⟨⟨⟨a0, n0, c0⟩, ⟨a1, n1, c1⟩, Y.last, Y.acts⟩, rfl, ?_, (readyAfter_no HNO.out).symm, ?_⟩
    · exact OwnY.up (OwnY.mono (OwnY.keeps HO.out HKK.out (fun b h1 h2 h3 => by have := HLO.out; omega)) (by have := HLO.out; omega)) (Nat.le_trans HO.out.le HKK.out.size) (Nat.le_refl _)
    · exact HB.out.trans (HKK.out.below HB.out.size (fun k hk hS => by omega))
  | true =>
    have HRK := hid hrk
    cases hck : cmdOk G ⟨kk, kb, kr, kc⟩ with
    | false =>
      have HNO := hid (goY_ck (D := Y.d) (V := ⟨vt, ⟨kk, kb, kr, kc⟩⟩) hck)
      obtain ⟨hle, e0, e1, e2, e3, e4⟩ := HE.out
      obtain ⟨hly, y0, y1⟩ := HK.out
      obtain ⟨hlg, g0, g1, g2, g3⟩ := HG.out
      have hov := over_cell w3
      refine wp_region_over (by kernel_rfl) (by kernel_rfl) ?_
      repeat (go_big_quiet_step ((first | (go_at_call 22; exact calls_over (calls_bool hrk ((implReadyOk_any G Y _ (HX.out.old (Over.below _)) HSM.out)))) | (go_at_call 84; exact calls_over (calls_bool hck (implCommandOk_any G ⟨kk, kb, kr, kc⟩ _))) | (go_at_call 81; with_reducible exact calls_over_same (between_of htk)))))
      refine wpQuiet_nil ?_
      intro w6 B
      have HT := hid (HT.out.old B)
      have HB := hid (below_step HB.out B (Nat.le_refl _))
      have HO := hid (HO.out.old B)
      have HOF := hid (OwnF.old HOF.out B)
      have HV := hid (HV.out.old B)
      have HE := hid (HE.out.old B)
      have HG := hid (HG.out.old B)
      have HK := hid (HK.out.old B)
      have HX := hid (HX.out.old B)
      clear B hov e0 e1 e2 e3 e4 y0 y1 g0 g1 g2 g3 hle hly hlg
      have z0 : w6.cell? ⟨g7, 0, none⟩ = some (.slice a0 n0 c0) := HV.out.cell (j := 0) rfl
      have z1 : w6.cell? ⟨g7, 1, none⟩ = some (.slice a1 n1 c1) := HV.out.cell (j := 1) rfl
      have d0 := HT.out.cell (j := 0) rfl
      have d1 := HT.out.cell (j := 1) rfl
      have f0 := HT.out.frozen 0
      have f1 := HT.out.frozen 1
      have HKK := hid (stored2 w6 (w.heap.size + 3) (.slice a0 n0 c0) (.slice a1 n1 c1))
      go_wp2_with fail
      refine bodyPost_ret (v := .agg #[.slice a0 n0 c0, .slice a1 n1 c1]) (by simp [results, Try.results30, go_sem, d0, d1]) rfl ⟨⟨⟨a0, n0, c0⟩, ⟨a1, n1, c1⟩, Y.last, Y.acts⟩, rfl, ?_, (readyAfter_no HNO.out).symm, ?_⟩
      · exact OwnY.up (OwnY.mono (OwnY.keeps HO.out HKK.out (fun b h1 h2 h3 => by have := HLO.out; omega)) (by have := HLO.out; omega)) (Nat.le_trans HO.out.le HKK.out.size) (Nat.le_refl _)
      · exact HB.out.trans (HKK.out.below HB.out.size (fun k hk hS => by omega))
    | true =>
      have HCK := hid hck
      cases htk : inB vt 0 1000000 with
      | false =>
        have HNO := hid (goY_tk (G := G) (D := Y.d) (V := ⟨vt, ⟨kk, kb, kr, kc⟩⟩) htk)
        obtain ⟨hle, e0, e1, e2, e3, e4⟩ := HE.out
        obtain ⟨hly, y0, y1⟩ := HK.out
        obtain ⟨hlg, g0, g1, g2, g3⟩ := HG.out
        have hov := over_cell w3
        refine wp_region_over (by kernel_rfl) (by kernel_rfl) ?_
        repeat (go_big_quiet_step ((first | (go_at_call 22; exact calls_over (calls_bool hrk ((implReadyOk_any G Y _ (HX.out.old (Over.below _)) HSM.out)))) | (go_at_call 84; exact calls_over (calls_bool hck (implCommandOk_any G ⟨kk, kb, kr, kc⟩ _))) | (go_at_call 81; with_reducible exact calls_over_same (between_of htk)))))
        refine wpQuiet_nil ?_
        intro w6 B
        have HT := hid (HT.out.old B)
        have HB := hid (below_step HB.out B (Nat.le_refl _))
        have HO := hid (HO.out.old B)
        have HOF := hid (OwnF.old HOF.out B)
        have HV := hid (HV.out.old B)
        have HE := hid (HE.out.old B)
        have HG := hid (HG.out.old B)
        have HK := hid (HK.out.old B)
        have HX := hid (HX.out.old B)
        clear B hov e0 e1 e2 e3 e4 y0 y1 g0 g1 g2 g3 hle hly hlg
        have z0 : w6.cell? ⟨g7, 0, none⟩ = some (.slice a0 n0 c0) := HV.out.cell (j := 0) rfl
        have z1 : w6.cell? ⟨g7, 1, none⟩ = some (.slice a1 n1 c1) := HV.out.cell (j := 1) rfl
        have d0 := HT.out.cell (j := 0) rfl
        have d1 := HT.out.cell (j := 1) rfl
        have f0 := HT.out.frozen 0
        have f1 := HT.out.frozen 1
        have HKK := hid (stored2 w6 (w.heap.size + 3) (.slice a0 n0 c0) (.slice a1 n1 c1))
        go_wp2_with fail
        refine bodyPost_ret (v := .agg #[.slice a0 n0 c0, .slice a1 n1 c1]) (by simp [results, Try.results30, go_sem, d0, d1]) rfl ⟨⟨⟨a0, n0, c0⟩, ⟨a1, n1, c1⟩, Y.last, Y.acts⟩, rfl, ?_, (readyAfter_no HNO.out).symm, ?_⟩
        · exact OwnY.up (OwnY.mono (OwnY.keeps HO.out HKK.out (fun b h1 h2 h3 => by have := HLO.out; omega)) (by have := HLO.out; omega)) (Nat.le_trans HO.out.le HKK.out.size) (Nat.le_refl _)
        · exact HB.out.trans (HKK.out.below HB.out.size (fun k hk hS => by omega))
      | true =>
        have HTK := hid htk
        cases hk1 : (kk == 1) with
        | false =>
          have HGO := hid (readyAfter_yes (goY_yes (V := ⟨vt, ⟨kk, kb, kr, kc⟩⟩) HRK.out HCK.out HTK.out (by unfold lateY; dsimp only; rw [hk1]; rfl)))
          obtain ⟨hle, e0, e1, e2, e3, e4⟩ := HE.out
          obtain ⟨hly, y0, y1⟩ := HK.out
          obtain ⟨hlg, g0, g1, g2, g3⟩ := HG.out
          have hov := over_cell w3
          refine wp_region_over (by kernel_rfl) (by kernel_rfl) ?_
          repeat (go_big_quiet_step ((first | (go_at_call 22; exact calls_over (calls_bool hrk ((implReadyOk_any G Y _ (HX.out.old (Over.below _)) HSM.out)))) | (go_at_call 84; exact calls_over (calls_bool hck (implCommandOk_any G ⟨kk, kb, kr, kc⟩ _))) | (go_at_call 81; with_reducible exact calls_over_same (between_of htk)))))
          refine wpQuiet_nil ?_
          intro w6 B
          have HT := hid (HT.out.old B)
          have HB := hid (below_step HB.out B (Nat.le_refl _))
          have HO := hid (HO.out.old B)
          have HOF := hid (OwnF.old HOF.out B)
          have HV := hid (HV.out.old B)
          have HE := hid (HE.out.old B)
          have HG := hid (HG.out.old B)
          have HK := hid (HK.out.old B)
          have HX := hid (HX.out.old B)
          clear B hov e0 e1 e2 e3 e4 y0 y1 g0 g1 g2 g3 hle hly hlg
          have HBK := hid (bkOk_of HCK.out)
          obtain ⟨_, hq1, hq2⟩ := readyOk_parts HRK.out
          have HRL : Hid (n0 = readyLen G) := hid (by
            have h1 := HL0.out
            have h2 := (readyLen_bd G).2
            have h3 : (Y.last.length : Int) = 9 * (bankN G + 1) := hq1
            omega)
          have HA4 : Hid (n1 ≤ 4) := hid (by
            have h1 := HL1.out
            have h3 : Y.acts.length ≤ 4 := hq2
            omega)
          clear hq1 hq2
          obtain ⟨hp0, hp1⟩ := lastPl_bd HBK.out
          obtain ⟨ix, hix⟩ : ∃ ix : Nat, lastPl G ⟨kk, kb, kr, kc⟩ = (ix : Int) := ⟨(lastPl G ⟨kk, kb, kr, kc⟩).toNat, by omega⟩
          have HIX := hid hix
          have hix2 : ix < n0 := by have := HRL.out; omega
          have hi0 : (0 : Int) ≤ (ix : Int) := by omega
          have hi1 : (ix : Int) < (n0 : Int) := by omega
          have hn0 : 0 < n0 := by omega
          clear hp0 hp1 hix
          obtain ⟨gl, hgl, hgl0, HRr⟩ := HO.out.last.row (Nat.ne_of_gt hn0)
          have hgl1 := HO.out.t0 gl ⟨Nat.ne_of_gt hn0, hgl⟩
          dsimp only at hgl HRr hgl1
          subst hgl
          have HR := hid HRr
          clear HRr
          have hrow := HR.out.2
          have HAP : Hid (∀ b, (Value.slice a1 n1 c1).ownBlock = some b → ¬ b = gl) := hid (fun b hb e => by
            by_cases hn : n1 = 0
            · have hc := HZ1.out hn
              rcases HOF.out.row.2 with ⟨hv, _⟩ | ⟨g', cap', cur, hv, hg1, hg', h5, h6, h7, h8⟩
              · rw [hv] at hb; cases hb
              · rcases hrow with ⟨hv2, _⟩ | ⟨g2, cap2, cur2, hv2, hg2, hg2', k5, k6, k7, k8⟩
                · cases hv2
                · rw [hv, ownBlock_slice] at hb
                  simp only [Option.some.injEq] at hb
                  injection hv with _ _ e3
                  injection hv2 with e4 _ e5
                  simp only [Option.some.injEq, Addr.mk.injEq, and_true] at e4
                  have e6 : g' = g2 := by omega
                  rw [e6, hg2'] at hg'
                  simp only [Option.some.injEq, Obj.cells.injEq] at hg'
                  have e7 : cur2.size = cur.size := by rw [hg'.1]
                  omega
            · have hs := HO.out.acts
              obtain ⟨q, hq, _, _⟩ := hs.row hn
              dsimp only at hq
              rw [hq] at hb
              rw [ownBlock_slice] at hb
              simp only [Option.some.injEq] at hb
              exact HO.out.apart gl ⟨Nat.ne_of_gt hn0, rfl⟩ ⟨hn, by show a1 = _; rw [hq, hb, e]⟩)
          clear hrow
          go_upto_region 6 with (fail)
          refine growR_of 9 (fr := ?fr1)
            (fun i v w' => match i with
                | 0 => v = .pointer (some ⟨g7, 0, none⟩)
                | 1 => v = .slice (some ⟨gl, 0, none⟩) n0 c0
                | 2 => v = .agg #[.int .i64 G.a, .int .i64 G.b, .int .i64 G.r, .int .i64 G.c]
                | 3 => v = .pointer (some ⟨w.heap.size + 2, 1, none⟩)
                | 4 => v = .agg #[.int .i64 kk, .int .i64 kb, .int .i64 kr, .int .i64 kc]
                | 5 => v = .int .i64 (lastPl G ⟨kk, kb, kr, kc⟩)
                | 6 => v = .pointer (some ⟨w.heap.size + 2, 0, none⟩)
                | 7 => v = .int .i64 vt
                | _ => v = .pointer (some ⟨gl, ix, none⟩)
              ) (by kernel_rfl) (by kernel_rfl) (by decide) (by kernel_rfl) ?hfr1 ⟨fun _ => undef, ?h01⟩ ?hF1 ?hstep1 ?hend1
          case hfr1 => intro vs; simp only [frOf, List.take_succ_cons, List.take_zero]; go_simp; exact rfl
          case h01 => rfl
          case hF1 =>
            intro i v w' w'' h hb
            match i, h with
            | 0, h => exact h
            | 1, h => exact h
            | 2, h => exact h
            | 3, h => exact h
            | 4, h => exact h
            | 5, h => exact h
            | 6, h => exact h
            | 7, h => exact h
            | n + 8, h => exact h
          case hstep1 =>
            intro vs w' i o hin ho hb hd
            match i, ho, hin with
            | 0, ho, _ =>
              simp only [List.getElem?_cons_zero, Option.some.injEq] at ho
              subst ho
              refine ⟨wanted_none rfl, ?_⟩
              generalize hK : (fun (a' : Act) (w'' : World) => ∃ v : Value, _ ∧ _ ∧ _) = K
              go_simp
              rw [← hK]
              exact ⟨_, rfl, rfl, Below.refl _ _⟩
            | 1, ho, _ =>
              simp only [List.getElem?_cons_succ, List.getElem?_cons_zero, Option.some.injEq] at ho
              subst ho
              refine ⟨wanted_none rfl, ?_⟩
              have e0 : vs 0 = .pointer (some ⟨g7, 0, none⟩) := hd 0 (by kernel_rfl)
              have q0 : w'.cell? ⟨g7, 0, none⟩ = some (.slice (some ⟨gl, 0, none⟩) n0 c0) := (HV.out.old hb).cell (j := 0) rfl
              generalize hK : (fun (a' : Act) (w'' : World) => ∃ v : Value, _ ∧ _ ∧ _) = K
              generalize hu : vs 0 = u at e0 ⊢
              subst e0
              go_simp
              rw [← hK]
              exact ⟨_, by simp [upd, hu], rfl, Below.refl _ _⟩
            | 2, ho, _ =>
              simp only [List.getElem?_cons_succ, List.getElem?_cons_zero, Option.some.injEq] at ho
              subst ho
              refine ⟨wanted_none rfl, ?_⟩
              obtain ⟨_, g0, g1, g2, g3⟩ := HG.out.old hb
              generalize hK : (fun (a' : Act) (w'' : World) => ∃ v : Value, _ ∧ _ ∧ _) = K
              go_simp
              rw [← hK]
              exact ⟨_, rfl, rfl, Below.refl _ _⟩
            | 3, ho, _ =>
              simp only [List.getElem?_cons_succ, List.getElem?_cons_zero, Option.some.injEq] at ho
              subst ho
              refine ⟨wanted_none rfl, ?_⟩
              generalize hK : (fun (a' : Act) (w'' : World) => ∃ v : Value, _ ∧ _ ∧ _) = K
              go_simp
              rw [← hK]
              exact ⟨_, rfl, rfl, Below.refl _ _⟩
            | 4, ho, _ =>
              simp only [List.getElem?_cons_succ, List.getElem?_cons_zero, Option.some.injEq] at ho
              subst ho
              refine ⟨wanted_none rfl, ?_⟩
              have e3 : vs 3 = .pointer (some ⟨w.heap.size + 2, 1, none⟩) := hd 3 (by kernel_rfl)
              obtain ⟨_, q0, q1, q2, q3, q4⟩ := HE.out.old hb
              generalize hK : (fun (a' : Act) (w'' : World) => ∃ v : Value, _ ∧ _ ∧ _) = K
              generalize hu : vs 3 = u at e3 ⊢
              subst e3
              go_simp
              rw [← hK]
              exact ⟨_, by simp [upd, hu], rfl, Below.refl _ _⟩
            | 5, ho, _ =>
              simp only [List.getElem?_cons_succ, List.getElem?_cons_zero, Option.some.injEq] at ho
              subst ho
              refine ⟨wanted_none rfl, ?_⟩
              have e2 : Hid (vs 2 = .agg #[.int .i64 G.a, .int .i64 G.b, .int .i64 G.r, .int .i64 G.c]) := hd 2 (by kernel_rfl)
              have e4 : Hid (vs 4 = .agg #[.int .i64 kk, .int .i64 kb, .int .i64 kr, .int .i64 kc]) := hd 4 (by kernel_rfl)
              generalize hK : (fun (a' : Act) (w'' : World) => ∃ v : Value, _ ∧ _ ∧ _) = K
              go_simp
              refine (calls_args (by rw [e2.out, e4.out]) (lastPlace_any G ⟨kk, kb, kr, kc⟩ _ HBK.out)).mono ?_
              rintro e w2 ⟨rfl, B⟩
              rw [← hK]
              exact ⟨_, rfl, rfl, B⟩
            | 6, ho, _ =>
              simp only [List.getElem?_cons_succ, List.getElem?_cons_zero, Option.some.injEq] at ho
              subst ho
              refine ⟨wanted_none rfl, ?_⟩
              generalize hK : (fun (a' : Act) (w'' : World) => ∃ v : Value, _ ∧ _ ∧ _) = K
              go_simp
              rw [← hK]
              exact ⟨_, rfl, rfl, Below.refl _ _⟩
            | 7, ho, _ =>
              simp only [List.getElem?_cons_succ, List.getElem?_cons_zero, Option.some.injEq] at ho
              subst ho
              refine ⟨wanted_none rfl, ?_⟩
              have e6 : vs 6 = .pointer (some ⟨w.heap.size + 2, 0, none⟩) := hd 6 (by kernel_rfl)
              obtain ⟨_, q0, q1, q2, q3, q4⟩ := HE.out.old hb
              generalize hK : (fun (a' : Act) (w'' : World) => ∃ v : Value, _ ∧ _ ∧ _) = K
              generalize hu : vs 6 = u at e6 ⊢
              subst e6
              go_simp
              rw [← hK]
              exact ⟨_, by simp [upd, hu], rfl, Below.refl _ _⟩
            | 8, ho, _ =>
              simp only [List.getElem?_cons_succ, List.getElem?_cons_zero, Option.some.injEq] at ho
              subst ho
              refine ⟨wanted_none rfl, ?_⟩
              have e1 : vs 1 = .slice (some ⟨gl, 0, none⟩) n0 c0 := hd 1 (by kernel_rfl)
              have e5 : vs 5 = .int .i64 (ix : Int) := HIX.out ▸ hd 5 (by kernel_rfl)
              generalize hK : (fun (a' : Act) (w'' : World) => ∃ v : Value, _ ∧ _ ∧ _) = K
              generalize hu : vs 1 = u at e1 ⊢
              subst e1
              generalize hu5 : vs 5 = u5 at e5 ⊢
              subst e5
              go_simp
              rw [← hK]
              exact ⟨_, by simp [upd, hu, hu5], rfl, Below.refl _ _⟩
            | n + 9, _, hin => exact absurd hin (by omega)
          case hend1 =>
            intro vs w7 hb hf
            have e7 : vs 7 = .int .i64 vt := hf 7 (by decide)
            have e8 : vs 8 = .pointer (some ⟨gl, ix, none⟩) := hf 8 (by decide)
            have HT := hid (HT.out.old hb)
            have HB := hid (below_step HB.out hb (Nat.le_refl _))
            have HO := hid (HO.out.old hb)
            have HOF := hid (OwnF.old HOF.out hb)
            have HV := hid (HV.out.old hb)
            have HE := hid (HE.out.old hb)
            have HG := hid (HG.out.old hb)
            have HK := hid (HK.out.old hb)
            have HX := hid (HX.out.old hb)
            have HR := hid (HR.out.old hb)
            clear hf hb
            generalize vs 7 = u7 at e7 ⊢
            subst e7
            generalize vs 8 = u8 at e8 ⊢
            subst e8
            obtain ⟨x, hx⟩ := some_at HL0.out hix2
            have c3 := HR.out.cell hx
            have f3 := HR.out.frozen ix
            have HS := hid (HR.out.set ix vt)
            have hgl7 := HR.out.lt
            clear hx
            simp only [List.drop_succ_cons, List.drop_zero]
            refine wpTail_plain rfl fun K hK => ?_
            go_simp
            refine hK _ _ (wpTail_nil ?_)
            clear c3 f3
            go_upto_region 7 with (fail)
            refine wp_world (fun w8 hw => ?_)
            have K8 : Keeps (· = gl) w7 w8 := by rw [hw.out]; exact HS.out.2
            have HR8 : Hid (IRow w8 gl n0 c0 (Y.last.set ix vt)) := by rw [hw.out]; exact hid HS.out.1
            clear hw HS
            have hne7 : ¬ g7 = gl := by have := HLO.out; omega
            have HV := hid (Blk.keeps (S := fun b => b = gl) HV.out K8 hne7)
            have HT := hid (Blk.keeps (S := fun b => b = gl) HT.out K8 (fun e => by have := HLO.out; omega))
            have HB := hid (HB.out.trans (K8.below HB.out.size (fun q hq hS => by have := HLO.out; omega)))
            have hE8 : ¬ (w.heap.size + 2 = gl) := by have := HLO.out; omega
            have e0' : w8.cell? ⟨w.heap.size + 2, 0, none⟩ = some (.int .i64 vt) := by
              obtain ⟨hl, q0, _⟩ := HE.out
              exact (K8.cell hl hE8 0).trans q0
            have hl8 : w.heap.size + 2 < w8.heap.size := Nat.lt_of_lt_of_le HE.out.lt K8.size
            have HAS := hid (HO.out.acts.keeps K8 (fun b hb e => HAP.out b (by rw [show a1 = some ⟨b, 0, none⟩ from hb.2]; rfl) e))
            have HD0 : Hid (∀ (z : List Int), (⟨Y.last.set ix vt, z⟩ : RdyD) = ⟨Y.last.set (lastPl G ⟨kk, kb, kr, kc⟩).toNat vt, z⟩) := hid (fun z => by rw [HIX.out]; rfl)
            have hs78 := K8.size
            have hle7 := HO.out.le
            have HO2 : Hid (OwnY w8 W.heap.size g7 ⟨⟨some ⟨gl, 0, none⟩, n0, c0⟩, ⟨a1, n1, c1⟩, Y.last.set ix vt, Y.acts⟩) := hid
              ⟨by have h := HO.out.le; omega, OwnS.of_row HR8.out hgl0, HAS.out, fun b hb => HO.out.t0 b hb, fun b hb => HO.out.t1 b hb, fun b hb => HO.out.apart b hb⟩
            clear HO
            have HO := HO2
            clear HO2 e0' K8
            have z0 : w8.cell? ⟨g7, 0, none⟩ = some (.slice (some ⟨gl, 0, none⟩) n0 c0) := HV.out.cell (j := 0) rfl
            have z1 : w8.cell? ⟨g7, 1, none⟩ = some (.slice a1 n1 c1) := HV.out.cell (j := 1) rfl
            have d0 := HT.out.cell (j := 0) rfl
            have d1 := HT.out.cell (j := 1) rfl
            have f0 := HT.out.frozen 0
            have f1 := HT.out.frozen 1
            have HKK := hid (stored2 w8 (w.heap.size + 3) (.slice (some ⟨gl, 0, none⟩) n0 c0) (.slice a1 n1 c1))
            go_wp2_with fail
            refine bodyPost_ret (v := .agg #[.slice (some ⟨gl, 0, none⟩) n0 c0, .slice a1 n1 c1]) (by simp [results, Try.results30, go_sem, d0, d1]) rfl ⟨⟨⟨(some ⟨gl, 0, none⟩), n0, c0⟩, ⟨a1, n1, c1⟩, (Y.last.set ix vt), Y.acts⟩, rfl, ?_, by rw [HGO.out]; show (⟨Y.last.set ix vt, Y.acts⟩ : RdyD) = ⟨Y.last.set (lastPl G ⟨kk, kb, kr, kc⟩).toNat vt, if (kk == 1) = true then _ else Y.acts⟩; rw [hk1, HD0.out]; rfl, ?_⟩
            · exact OwnY.up (OwnY.mono (OwnY.keeps HO.out HKK.out (fun b h1 h2 h3 => by have := HLO.out; omega)) (by have := HLO.out; omega)) (Nat.le_trans HO.out.le HKK.out.size) (Nat.le_refl _)
            · exact HB.out.trans (HKK.out.below HB.out.size (fun k hk hS => by omega))
        | true =>
          by_cases hn : 0 < Y.s1.n
          · have hni : (0 : Int) < (Y.s1.n : Int) := by omega
            have hni2 : decide ((0 : Int) < (Y.s1.n : Int)) = true := by simpa using hni
            obtain ⟨m, hm⟩ : ∃ m, Y.s1.n = m + 1 := ⟨Y.s1.n - 1, by omega⟩
            obtain ⟨x, hx⟩ := some_at (xs := Y.acts) HN1.out (show m < Y.s1.n by omega)
            have HG1 := hid (getD_of hx)
            obtain ⟨b1, o1, ha1, hb1, hc1⟩ := HX.out.acts m x hx
            clear hx
            have HA1 := hid ha1
            clear ha1
            have HLT : Hid (lateY Y.d ⟨vt, ⟨kk, kb, kr, kc⟩⟩ = decide (vt ≤ x)) := hid (by
              have h1 : Y.d.acts.length = Y.s1.n := HN1.out.symm
              have h2 : (Y.s1.n - 1) = m := by omega
              unfold lateY
              dsimp only
              rw [hk1, h1, h2]
              rw [show Y.d.acts.getD m 0 = x from HG1.out]
              simp [hn])
            have hnb : Y.s1.n ≤ 1048576 := by have h1 := HSM.out.2; have h2 := HN1.out; omega
            have s1 : IntKind.i64.wrap ((Y.s1.n : Int) - 1) = (m : Int) := by rw [IntWalk.i64_in _ (by omega)]; omega
            have hm0 : (0 : Int) ≤ (m : Int) := by omega
            have hm1 : (m : Int) < (Y.s1.n : Int) := by omega
            clear hm
            cases hle : decide (vt ≤ x) with
            | true =>
              have HLT := hid (HLT.out.trans hle)
              have hle2 : vt ≤ x := by simpa using hle
              have HNO := hid (goY_late (G := G) HLT.out)
              obtain ⟨hle, e0, e1, e2, e3, e4⟩ := HE.out
              obtain ⟨hly, y0, y1⟩ := HK.out
              obtain ⟨hlg, g0, g1, g2, g3⟩ := HG.out
              have hov := over_cell w3
              rw [HA1.out] at y1
              refine wp_region_over (by kernel_rfl) (by kernel_rfl) ?_
              repeat (go_big_quiet_step ((first | (go_at_call 22; exact calls_over (calls_bool hrk (calls_args (by rw [HA1.out]) (implReadyOk_any G Y _ (HX.out.old (Over.below _)) HSM.out)))) | (go_at_call 84; exact calls_over (calls_bool hck (implCommandOk_any G ⟨kk, kb, kr, kc⟩ _))) | (go_at_call 81; with_reducible exact calls_over_same (between_of htk)))))
              refine wpQuiet_nil ?_
              intro w6 B
              have HT := hid (HT.out.old B)
              have HB := hid (below_step HB.out B (Nat.le_refl _))
              have HO := hid (HO.out.old B)
              have HOF := hid (OwnF.old HOF.out B)
              have HV := hid (HV.out.old B)
              have HE := hid (HE.out.old B)
              have HG := hid (HG.out.old B)
              have HK := hid (HK.out.old B)
              have HX := hid (HX.out.old B)
              clear B hov e0 e1 e2 e3 e4 y0 y1 g0 g1 g2 g3 hle hly hlg
              have z0 : w6.cell? ⟨g7, 0, none⟩ = some (.slice a0 n0 c0) := HV.out.cell (j := 0) rfl
              have z1 : w6.cell? ⟨g7, 1, none⟩ = some (.slice a1 n1 c1) := HV.out.cell (j := 1) rfl
              have d0 := HT.out.cell (j := 0) rfl
              have d1 := HT.out.cell (j := 1) rfl
              have f0 := HT.out.frozen 0
              have f1 := HT.out.frozen 1
              have HKK := hid (stored2 w6 (w.heap.size + 3) (.slice a0 n0 c0) (.slice a1 n1 c1))
              go_wp2_with fail
              refine bodyPost_ret (v := .agg #[.slice a0 n0 c0, .slice a1 n1 c1]) (by simp [results, Try.results30, go_sem, d0, d1]) rfl ⟨⟨⟨a0, n0, c0⟩, ⟨a1, n1, c1⟩, Y.last, Y.acts⟩, rfl, ?_, (readyAfter_no HNO.out).symm, ?_⟩
              · exact OwnY.up (OwnY.mono (OwnY.keeps HO.out HKK.out (fun b h1 h2 h3 => by have := HLO.out; omega)) (by have := HLO.out; omega)) (Nat.le_trans HO.out.le HKK.out.size) (Nat.le_refl _)
              · exact HB.out.trans (HKK.out.below HB.out.size (fun k hk hS => by omega))
            | false =>
              have HLT := hid (HLT.out.trans hle)
              have hle2 : ¬ vt ≤ x := by simpa using hle
              have HGO := hid (readyAfter_yes (goY_yes (V := ⟨vt, ⟨kk, kb, kr, kc⟩⟩) HRK.out HCK.out HTK.out (HLT.out)))
              obtain ⟨hle, e0, e1, e2, e3, e4⟩ := HE.out
              obtain ⟨hly, y0, y1⟩ := HK.out
              obtain ⟨hlg, g0, g1, g2, g3⟩ := HG.out
              have hov := over_cell w3
              rw [HA1.out] at y1
              refine wp_region_over (by kernel_rfl) (by kernel_rfl) ?_
              repeat (go_big_quiet_step ((first | (go_at_call 22; exact calls_over (calls_bool hrk (calls_args (by rw [HA1.out]) (implReadyOk_any G Y _ (HX.out.old (Over.below _)) HSM.out)))) | (go_at_call 84; exact calls_over (calls_bool hck (implCommandOk_any G ⟨kk, kb, kr, kc⟩ _))) | (go_at_call 81; with_reducible exact calls_over_same (between_of htk)))))
              refine wpQuiet_nil ?_
              intro w6 B
              have HT := hid (HT.out.old B)
              have HB := hid (below_step HB.out B (Nat.le_refl _))
              have HO := hid (HO.out.old B)
              have HOF := hid (OwnF.old HOF.out B)
              have HV := hid (HV.out.old B)
              have HE := hid (HE.out.old B)
              have HG := hid (HG.out.old B)
              have HK := hid (HK.out.old B)
              have HX := hid (HX.out.old B)
              clear B hov e0 e1 e2 e3 e4 y0 y1 g0 g1 g2 g3 hle hly hlg
              have HBK := hid (bkOk_of HCK.out)
              obtain ⟨_, hq1, hq2⟩ := readyOk_parts HRK.out
              have HRL : Hid (n0 = readyLen G) := hid (by
                have h1 := HL0.out
                have h2 := (readyLen_bd G).2
                have h3 : (Y.last.length : Int) = 9 * (bankN G + 1) := hq1
                omega)
              have HA4 : Hid (n1 ≤ 4) := hid (by
                have h1 := HL1.out
                have h3 : Y.acts.length ≤ 4 := hq2
                omega)
              clear hq1 hq2
              obtain ⟨hp0, hp1⟩ := lastPl_bd HBK.out
              obtain ⟨ix, hix⟩ : ∃ ix : Nat, lastPl G ⟨kk, kb, kr, kc⟩ = (ix : Int) := ⟨(lastPl G ⟨kk, kb, kr, kc⟩).toNat, by omega⟩
              have HIX := hid hix
              have hix2 : ix < n0 := by have := HRL.out; omega
              have hi0 : (0 : Int) ≤ (ix : Int) := by omega
              have hi1 : (ix : Int) < (n0 : Int) := by omega
              have hn0 : 0 < n0 := by omega
              clear hp0 hp1 hix
              obtain ⟨gl, hgl, hgl0, HRr⟩ := HO.out.last.row (Nat.ne_of_gt hn0)
              have hgl1 := HO.out.t0 gl ⟨Nat.ne_of_gt hn0, hgl⟩
              dsimp only at hgl HRr hgl1
              subst hgl
              have HR := hid HRr
              clear HRr
              have hrow := HR.out.2
              have HAP : Hid (∀ b, (Value.slice a1 n1 c1).ownBlock = some b → ¬ b = gl) := hid (fun b hb e => by
                by_cases hn : n1 = 0
                · have hc := HZ1.out hn
                  rcases HOF.out.row.2 with ⟨hv, _⟩ | ⟨g', cap', cur, hv, hg1, hg', h5, h6, h7, h8⟩
                  · rw [hv] at hb; cases hb
                  · rcases hrow with ⟨hv2, _⟩ | ⟨g2, cap2, cur2, hv2, hg2, hg2', k5, k6, k7, k8⟩
                    · cases hv2
                    · rw [hv, ownBlock_slice] at hb
                      simp only [Option.some.injEq] at hb
                      injection hv with _ _ e3
                      injection hv2 with e4 _ e5
                      simp only [Option.some.injEq, Addr.mk.injEq, and_true] at e4
                      have e6 : g' = g2 := by omega
                      rw [e6, hg2'] at hg'
                      simp only [Option.some.injEq, Obj.cells.injEq] at hg'
                      have e7 : cur2.size = cur.size := by rw [hg'.1]
                      omega
                · have hs := HO.out.acts
                  obtain ⟨q, hq, _, _⟩ := hs.row hn
                  dsimp only at hq
                  rw [hq] at hb
                  rw [ownBlock_slice] at hb
                  simp only [Option.some.injEq] at hb
                  exact HO.out.apart gl ⟨Nat.ne_of_gt hn0, rfl⟩ ⟨hn, by show a1 = _; rw [hq, hb, e]⟩)
              clear hrow
              go_upto_region 6 with (fail)
              refine growR_of 9 (fr := ?fr2)
                (fun i v w' => match i with
                    | 0 => v = .pointer (some ⟨g7, 0, none⟩)
                    | 1 => v = .slice (some ⟨gl, 0, none⟩) n0 c0
                    | 2 => v = .agg #[.int .i64 G.a, .int .i64 G.b, .int .i64 G.r, .int .i64 G.c]
                    | 3 => v = .pointer (some ⟨w.heap.size + 2, 1, none⟩)
                    | 4 => v = .agg #[.int .i64 kk, .int .i64 kb, .int .i64 kr, .int .i64 kc]
                    | 5 => v = .int .i64 (lastPl G ⟨kk, kb, kr, kc⟩)
                    | 6 => v = .pointer (some ⟨w.heap.size + 2, 0, none⟩)
                    | 7 => v = .int .i64 vt
                    | _ => v = .pointer (some ⟨gl, ix, none⟩)
                  ) (by kernel_rfl) (by kernel_rfl) (by decide) (by kernel_rfl) ?hfr2 ⟨fun _ => undef, ?h02⟩ ?hF2 ?hstep2 ?hend2
              case hfr2 => intro vs; simp only [frOf, List.take_succ_cons, List.take_zero]; go_simp; exact rfl
              case h02 => rfl
              case hF2 =>
                intro i v w' w'' h hb
                match i, h with
                | 0, h => exact h
                | 1, h => exact h
                | 2, h => exact h
                | 3, h => exact h
                | 4, h => exact h
                | 5, h => exact h
                | 6, h => exact h
                | 7, h => exact h
                | n + 8, h => exact h
              case hstep2 =>
                intro vs w' i o hin ho hb hd
                match i, ho, hin with
                | 0, ho, _ =>
                  simp only [List.getElem?_cons_zero, Option.some.injEq] at ho
                  subst ho
                  refine ⟨wanted_none rfl, ?_⟩
                  generalize hK : (fun (a' : Act) (w'' : World) => ∃ v : Value, _ ∧ _ ∧ _) = K
                  go_simp
                  rw [← hK]
                  exact ⟨_, rfl, rfl, Below.refl _ _⟩
                | 1, ho, _ =>
                  simp only [List.getElem?_cons_succ, List.getElem?_cons_zero, Option.some.injEq] at ho
                  subst ho
                  refine ⟨wanted_none rfl, ?_⟩
                  have e0 : vs 0 = .pointer (some ⟨g7, 0, none⟩) := hd 0 (by kernel_rfl)
                  have q0 : w'.cell? ⟨g7, 0, none⟩ = some (.slice (some ⟨gl, 0, none⟩) n0 c0) := (HV.out.old hb).cell (j := 0) rfl
                  generalize hK : (fun (a' : Act) (w'' : World) => ∃ v : Value, _ ∧ _ ∧ _) = K
                  generalize hu : vs 0 = u at e0 ⊢
                  subst e0
                  go_simp
                  rw [← hK]
                  exact ⟨_, by simp [upd, hu], rfl, Below.refl _ _⟩
                | 2, ho, _ =>
                  simp only [List.getElem?_cons_succ, List.getElem?_cons_zero, Option.some.injEq] at ho
                  subst ho
                  refine ⟨wanted_none rfl, ?_⟩
                  obtain ⟨_, g0, g1, g2, g3⟩ := HG.out.old hb
                  generalize hK : (fun (a' : Act) (w'' : World) => ∃ v : Value, _ ∧ _ ∧ _) = K
                  go_simp
                  rw [← hK]
                  exact ⟨_, rfl, rfl, Below.refl _ _⟩
                | 3, ho, _ =>
                  simp only [List.getElem?_cons_succ, List.getElem?_cons_zero, Option.some.injEq] at ho
                  subst ho
                  refine ⟨wanted_none rfl, ?_⟩
                  generalize hK : (fun (a' : Act) (w'' : World) => ∃ v : Value, _ ∧ _ ∧ _) = K
                  go_simp
                  rw [← hK]
                  exact ⟨_, rfl, rfl, Below.refl _ _⟩
                | 4, ho, _ =>
                  simp only [List.getElem?_cons_succ, List.getElem?_cons_zero, Option.some.injEq] at ho
                  subst ho
                  refine ⟨wanted_none rfl, ?_⟩
                  have e3 : vs 3 = .pointer (some ⟨w.heap.size + 2, 1, none⟩) := hd 3 (by kernel_rfl)
                  obtain ⟨_, q0, q1, q2, q3, q4⟩ := HE.out.old hb
                  generalize hK : (fun (a' : Act) (w'' : World) => ∃ v : Value, _ ∧ _ ∧ _) = K
                  generalize hu : vs 3 = u at e3 ⊢
                  subst e3
                  go_simp
                  rw [← hK]
                  exact ⟨_, by simp [upd, hu], rfl, Below.refl _ _⟩
                | 5, ho, _ =>
                  simp only [List.getElem?_cons_succ, List.getElem?_cons_zero, Option.some.injEq] at ho
                  subst ho
                  refine ⟨wanted_none rfl, ?_⟩
                  have e2 : Hid (vs 2 = .agg #[.int .i64 G.a, .int .i64 G.b, .int .i64 G.r, .int .i64 G.c]) := hd 2 (by kernel_rfl)
                  have e4 : Hid (vs 4 = .agg #[.int .i64 kk, .int .i64 kb, .int .i64 kr, .int .i64 kc]) := hd 4 (by kernel_rfl)
                  generalize hK : (fun (a' : Act) (w'' : World) => ∃ v : Value, _ ∧ _ ∧ _) = K
                  go_simp
                  refine (calls_args (by rw [e2.out, e4.out]) (lastPlace_any G ⟨kk, kb, kr, kc⟩ _ HBK.out)).mono ?_
                  rintro e w2 ⟨rfl, B⟩
                  rw [← hK]
                  exact ⟨_, rfl, rfl, B⟩
                | 6, ho, _ =>
                  simp only [List.getElem?_cons_succ, List.getElem?_cons_zero, Option.some.injEq] at ho
                  subst ho
                  refine ⟨wanted_none rfl, ?_⟩
                  generalize hK : (fun (a' : Act) (w'' : World) => ∃ v : Value, _ ∧ _ ∧ _) = K
                  go_simp
                  rw [← hK]
                  exact ⟨_, rfl, rfl, Below.refl _ _⟩
                | 7, ho, _ =>
                  simp only [List.getElem?_cons_succ, List.getElem?_cons_zero, Option.some.injEq] at ho
                  subst ho
                  refine ⟨wanted_none rfl, ?_⟩
                  have e6 : vs 6 = .pointer (some ⟨w.heap.size + 2, 0, none⟩) := hd 6 (by kernel_rfl)
                  obtain ⟨_, q0, q1, q2, q3, q4⟩ := HE.out.old hb
                  generalize hK : (fun (a' : Act) (w'' : World) => ∃ v : Value, _ ∧ _ ∧ _) = K
                  generalize hu : vs 6 = u at e6 ⊢
                  subst e6
                  go_simp
                  rw [← hK]
                  exact ⟨_, by simp [upd, hu], rfl, Below.refl _ _⟩
                | 8, ho, _ =>
                  simp only [List.getElem?_cons_succ, List.getElem?_cons_zero, Option.some.injEq] at ho
                  subst ho
                  refine ⟨wanted_none rfl, ?_⟩
                  have e1 : vs 1 = .slice (some ⟨gl, 0, none⟩) n0 c0 := hd 1 (by kernel_rfl)
                  have e5 : vs 5 = .int .i64 (ix : Int) := HIX.out ▸ hd 5 (by kernel_rfl)
                  generalize hK : (fun (a' : Act) (w'' : World) => ∃ v : Value, _ ∧ _ ∧ _) = K
                  generalize hu : vs 1 = u at e1 ⊢
                  subst e1
                  generalize hu5 : vs 5 = u5 at e5 ⊢
                  subst e5
                  go_simp
                  rw [← hK]
                  exact ⟨_, by simp [upd, hu, hu5], rfl, Below.refl _ _⟩
                | n + 9, _, hin => exact absurd hin (by omega)
              case hend2 =>
                intro vs w7 hb hf
                have e7 : vs 7 = .int .i64 vt := hf 7 (by decide)
                have e8 : vs 8 = .pointer (some ⟨gl, ix, none⟩) := hf 8 (by decide)
                have HT := hid (HT.out.old hb)
                have HB := hid (below_step HB.out hb (Nat.le_refl _))
                have HO := hid (HO.out.old hb)
                have HOF := hid (OwnF.old HOF.out hb)
                have HV := hid (HV.out.old hb)
                have HE := hid (HE.out.old hb)
                have HG := hid (HG.out.old hb)
                have HK := hid (HK.out.old hb)
                have HX := hid (HX.out.old hb)
                have HR := hid (HR.out.old hb)
                clear hf hb
                generalize vs 7 = u7 at e7 ⊢
                subst e7
                generalize vs 8 = u8 at e8 ⊢
                subst e8
                obtain ⟨x, hx⟩ := some_at HL0.out hix2
                have c3 := HR.out.cell hx
                have f3 := HR.out.frozen ix
                have HS := hid (HR.out.set ix vt)
                have hgl7 := HR.out.lt
                clear hx
                simp only [List.drop_succ_cons, List.drop_zero]
                refine wpTail_plain rfl fun K hK => ?_
                go_simp
                refine hK _ _ (wpTail_nil ?_)
                clear c3 f3
                go_upto_region 7 with (fail)
                refine wp_world (fun w8 hw => ?_)
                have K8 : Keeps (· = gl) w7 w8 := by rw [hw.out]; exact HS.out.2
                have HR8 : Hid (IRow w8 gl n0 c0 (Y.last.set ix vt)) := by rw [hw.out]; exact hid HS.out.1
                clear hw HS
                have hne7 : ¬ g7 = gl := by have := HLO.out; omega
                have HV := hid (Blk.keeps (S := fun b => b = gl) HV.out K8 hne7)
                have HT := hid (Blk.keeps (S := fun b => b = gl) HT.out K8 (fun e => by have := HLO.out; omega))
                have HB := hid (HB.out.trans (K8.below HB.out.size (fun q hq hS => by have := HLO.out; omega)))
                have hE8 : ¬ (w.heap.size + 2 = gl) := by have := HLO.out; omega
                have e0' : w8.cell? ⟨w.heap.size + 2, 0, none⟩ = some (.int .i64 vt) := by
                  obtain ⟨hl, q0, _⟩ := HE.out
                  exact (K8.cell hl hE8 0).trans q0
                have hl8 : w.heap.size + 2 < w8.heap.size := Nat.lt_of_lt_of_le HE.out.lt K8.size
                have HAS := hid (HO.out.acts.keeps K8 (fun b hb e => HAP.out b (by rw [show a1 = some ⟨b, 0, none⟩ from hb.2]; rfl) e))
                have HD0 : Hid (∀ (z : List Int), (⟨Y.last.set ix vt, z⟩ : RdyD) = ⟨Y.last.set (lastPl G ⟨kk, kb, kr, kc⟩).toNat vt, z⟩) := hid (fun z => by rw [HIX.out]; rfl)
                have hs78 := K8.size
                have hle7 := HO.out.le
                have HOF8 : Hid (OwnF encN 1 3 w8 W.heap.size g7 a1 n1 c1 Y.acts) := hid (OwnF.keepsO HOF.out K8 (fun b hb e => HAP.out b hb e))
                clear HO HOF K8
                have v1 : w8.cell? ⟨g7, 1, none⟩ = some (.slice a1 n1 c1) := HV.out.cell (j := 1) rfl
                have f1 := HV.out.frozen 1
                have hgl8 := HR8.out.lt
                have hg78 := HV.out.lt
                have hWw8 := HLN.out
                go_upto_region 9 with (at_builtin; refine wpList_append_rec recN rfl _ _ rfl w8 W.heap.size g7 a1 n1 c1 Y.acts HOF8.out (by simp [go_sem]) vt _ rfl (by simp [go_sem]) (by have := HLO.out; omega) (by have := HA4.out; omega) ?_; intro a2 c2 w9 O9 K9; have HK9 := hid K9; have HO9 := hid O9; have HV9 := hid (HV.out.keeps K9 (OwnF.not_blk HOF8.out HV.out rfl)); have v9 := HV9.out.cell (j := 1) rfl; have f9 := HV9.out.frozen 1; have l9 := HV9.out.lt; clear K9 O9 v1 f1)
                refine wp_world (fun w10 hw => ?_)
                have K10 : Keeps (· = g7) w9 w10 := by rw [hw.out]; exact (HV9.out.set 1 _).2
                have HV10 : Hid (Blk w10 g7 37 [.slice (some ⟨gl, 0, none⟩) n0 c0, .slice a2 (n1 + 1) c2]) := by rw [hw.out]; exact hid (HV9.out.set 1 _).1
                clear hw v9 f9
                have HO10 := hid (OwnF.keepsO HO9.out K10 (fun b hb e => OwnF.not_blk HO9.out HV9.out rfl (by rw [← show b = g7 from e]; exact hb)))
                have HR10 := hid ((HR8.out.keeps HK9.out (fun hS => HAP.out gl hS rfl)).keeps K10 (fun e => hne7 e.symm))
                have HT10 := hid ((HT.out.keeps HK9.out (fun hS => by have h9 := (HOF8.out.row.lt _ hS).1; have := HLO.out; omega)).keeps (S := fun b => b = g7) K10 (fun e => by have := HLO.out; omega))
                have HB10 := hid ((HB.out.trans (HK9.out.below HB.out.size (fun q hq hS => by have h9 := (HOF8.out.row.lt _ hS).1; have := HLO.out; omega))).trans (K10.below (by have := HB.out.size; have := HK9.out.size; omega) (fun q hq e => by have := HLO.out; omega)))
                clear HV9 HO9 HK9 K10 HOF8 HV HT HB HR8
                have HT := HT10
                have HB := HB10
                have HV := HV10
                clear HT10 HB10 HV10
                obtain ⟨ga, hga, hga1, hga2⟩ := OwnF.form HO10.out (Nat.succ_pos _)
                subst hga
                have hcap := HO10.out.le_cap
                have HA10 := hid (RecR.ints (OwnF.reads encN_len (by decide) HO10.out))
                have hga10 := HO10.out.le
                clear HO10
                have hl10 := HV.out.lt
                have HE := hid (OwnF.of_lit (f := encN) (k := 1) (T := 3) w10 rfl)
                have v1 : w10.cell? ⟨g7, 1, none⟩ = some (.slice (some ⟨ga, 0, none⟩) (n1 + 1) c2) := HV.out.cell (j := 1) rfl
                have hn4 := HA4.out
                by_cases hn5 : n1 = 4
                rotate_left
                · have HLA : Hid (Y.acts.length = n1) := hid HL1.out.symm
                  have HRD : Hid (RecR encN 1 (w10.alloc (.cells #[] 3)) (some ⟨ga, 0, none⟩) (Y.acts ++ [vt])) := hid (IntsR.recs ((HA10.out).old (below_alloc _ _)))
                  have HLEN : Hid ((n1 + 1) = (Y.acts ++ [vt]).length) := hid (by rw [List.length_append, HLA.out]; rfl)
                  have h4 : last4 (Y.acts ++ [vt]) = (Y.acts ++ [vt]) := by
                    unfold last4
                    have h : (Y.acts ++ [vt]).length - 4 = 0 := by rw [List.length_append, HLA.out]; show n1 + 1 - 4 = 0; omega
                    rw [h]; rfl
                  skip
                  skip
                  skip
                  obtain ⟨d, hd⟩ : ∃ d : Int, (n1 : Int) + 1 - 4 = d := ⟨_, rfl⟩
                  have hdz : ¬ (0 : Int) < d := by omega
                  have s1 : IntKind.i64.wrap (((n1 + 1 : Nat) : Int) - 4) = d := by rw [IntWalk.i64_in _ (by omega)]; omega
                  have s2 : IntKind.i64.wrap ((n1 : Int) + 1 - 4) = d := by rw [IntWalk.i64_in _ (by omega)]; omega
                  have s3 : wrap64 ((n1 : Int) + 1 - 4) = d := by rw [IntWalk.wrap64_in _ (by omega)]; omega
                  have hn6 : n1 ≤ 1048576 := by omega
                  clear hn5 hn4 hd
                  have H4 := hid h4
                  clear h4
                  go_upto_region 10 with (at_builtin; refine wpList_append_newrow recN rfl _ _ rfl _ w10.heap.size _ w10.heap.size HE.out (by simp [go_sem]) (some ⟨ga, 0, none⟩) (n1 + 1) c2 (Y.acts ++ [vt]) HRD.out HLEN.out (by simp [go_sem]) (by simp) (by omega) ?_; intro a3 c3 w11 O11 B11; have HO11 := hid O11; have HB11 := hid ((below_alloc w10 (.cells #[] 3)).trans (B11.mono (by simp))); have HV11 := hid (HV.out.old HB11.out); have f11 := HV11.out.frozen 1; have v11 := HV11.out.cell (j := 1) rfl; clear O11 B11 v1)
                  refine wp_world (fun w12 hw => ?_)
                  have K12 : Keeps (· = g7) w11 w12 := by rw [hw.out]; exact (HV11.out.set 1 _).2
                  have HV12 : Hid (Blk w12 g7 37 [.slice (some ⟨gl, 0, none⟩) n0 c0, .slice a3 (n1 + 1) c3]) := by rw [hw.out]; exact hid (HV11.out.set 1 _).1
                  clear hw f11 v11
                  have HO12 := hid (OwnF.keepsO HO11.out K12 (fun b hb e => OwnF.not_blk HO11.out HV11.out rfl (by rw [← show b = g7 from e]; exact hb)))
                  have HR12 := hid ((HR10.out.old HB11.out).keeps K12 (fun e => hne7 e.symm))
                  have HT12 := hid ((HT.out.old HB11.out).keeps (S := fun b => b = g7) K12 (fun e => by have := HLO.out; omega))
                  have HB12 := hid ((below_step HB.out HB11.out (Nat.le_refl _)).trans (K12.below (by have := HB.out.size; have := HB11.out.size; omega) (fun q hq e => by have := HLO.out; omega)))
                  have hs12 := K12.size
                  have hs11 := HB11.out.size
                  have HS12 := hid (OwnF.toS HO12.out)
                  have HO : Hid (OwnY w12 W.heap.size w12.heap.size ⟨⟨some ⟨gl, 0, none⟩, n0, c0⟩, ⟨a3, (n1 + 1), c3⟩, Y.last.set ix vt, (Y.acts ++ [vt])⟩) := hid (by
                    refine ⟨Nat.le_refl _, OwnS.of_row HR12.out hgl0, HS12.out.mono (by omega), fun b hb => ?_, fun b hb => (HS12.out.lt hb).2, fun b hb hb' => ?_⟩
                    · have e : gl = b := by have h := hb.2; simpa using h
                      have := HR12.out.lt; omega
                    · have e : gl = b := by have h := hb.2; simpa using h
                      have := (HS12.out.lt hb').1; omega)
                  clear HV HT HB HV11 HO11 HO12 K12 HS12
                  have HV := HV12
                  have HT := HT12
                  have HB := HB12
                  clear HV12 HT12 HB12
                  have z0 : w12.cell? ⟨g7, 0, none⟩ = some (.slice (some ⟨gl, 0, none⟩) n0 c0) := HV.out.cell (j := 0) rfl
                  have z1 : w12.cell? ⟨g7, 1, none⟩ = some (.slice a3 (n1 + 1) c3) := HV.out.cell (j := 1) rfl
                  have d0 := HT.out.cell (j := 0) rfl
                  have d1 := HT.out.cell (j := 1) rfl
                  have f0 := HT.out.frozen 0
                  have f1 := HT.out.frozen 1
                  have HKK := hid (stored2 w12 (w.heap.size + 3) (.slice (some ⟨gl, 0, none⟩) n0 c0) (.slice a3 (n1 + 1) c3))
                  go_wp2_with fail
                  refine bodyPost_ret (v := .agg #[.slice (some ⟨gl, 0, none⟩) n0 c0, .slice a3 (n1 + 1) c3]) (by simp [results, Try.results30, go_sem, d0, d1]) rfl ⟨⟨⟨(some ⟨gl, 0, none⟩), n0, c0⟩, ⟨a3, (n1 + 1), c3⟩, (Y.last.set ix vt), (Y.acts ++ [vt])⟩, rfl, ?_, by rw [HGO.out]; show (⟨Y.last.set ix vt, (Y.acts ++ [vt])⟩ : RdyD) = ⟨Y.last.set (lastPl G ⟨kk, kb, kr, kc⟩).toNat vt, if (kk == 1) = true then last4 (Y.acts ++ [vt]) else Y.acts⟩; rw [hk1, HD0.out, H4.out]; rfl, ?_⟩
                  · exact OwnY.up (OwnY.mono (OwnY.keeps HO.out HKK.out (fun b h1 h2 h3 => by have := HLO.out; omega)) (by have := HLO.out; omega)) (Nat.le_trans HO.out.le HKK.out.size) (Nat.le_refl _)
                  · exact HB.out.trans (HKK.out.below HB.out.size (fun k hk hS => by omega))
                · have HLA : Hid (Y.acts.length = n1) := hid HL1.out.symm
                  have HRD : Hid (RecR encN 1 (w10.alloc (.cells #[] 3)) (some ⟨ga, 1, none⟩) ((Y.acts ++ [vt]).drop 1)) := hid (IntsR.recs ((HA10.out.drop 1).old (below_alloc _ _)))
                  have HLEN : Hid (n1 = ((Y.acts ++ [vt]).drop 1).length) := hid (by rw [List.length_drop, List.length_append, HLA.out]; rfl)
                  have h4 : last4 (Y.acts ++ [vt]) = ((Y.acts ++ [vt]).drop 1) := by
                    unfold last4
                    have h : (Y.acts ++ [vt]).length - 4 = 1 := by rw [List.length_append, HLA.out]; show n1 + 1 - 4 = 1; omega
                    rw [h]
                  have hc1 : ¬ c2 = 1 := by omega
                  have hc2 : ¬ c2 ≤ 1 := by omega
                  have hc3 : 1 < c2 := by omega
                  obtain ⟨d, hd⟩ : ∃ d : Int, (n1 : Int) + 1 - 4 = d := ⟨_, rfl⟩
                  have hdz : d = 1 := by omega
                  have s1 : IntKind.i64.wrap (((n1 + 1 : Nat) : Int) - 4) = 1 := by rw [IntWalk.i64_in _ (by omega)]; omega
                  have s2 : IntKind.i64.wrap ((n1 : Int) + 1 - 4) = 1 := by rw [IntWalk.i64_in _ (by omega)]; omega
                  have s3 : wrap64 ((n1 : Int) + 1 - 4) = 1 := by rw [IntWalk.wrap64_in _ (by omega)]; omega
                  have hn6 : n1 ≤ 1048576 := by omega
                  clear hn5 hn4 hd
                  have H4 := hid h4
                  clear h4
                  go_upto_region 10 with (at_builtin; refine wpList_append_newrow recN rfl _ _ rfl _ w10.heap.size _ w10.heap.size HE.out (by simp [go_sem]) (some ⟨ga, 1, none⟩) n1 (c2 - 1) ((Y.acts ++ [vt]).drop 1) HRD.out HLEN.out (by simp [go_sem]) (by simp) (by omega) ?_; intro a3 c3 w11 O11 B11; have HO11 := hid O11; have HB11 := hid ((below_alloc w10 (.cells #[] 3)).trans (B11.mono (by simp))); have HV11 := hid (HV.out.old HB11.out); have f11 := HV11.out.frozen 1; have v11 := HV11.out.cell (j := 1) rfl; clear O11 B11 v1)
                  refine wp_world (fun w12 hw => ?_)
                  have K12 : Keeps (· = g7) w11 w12 := by rw [hw.out]; exact (HV11.out.set 1 _).2
                  have HV12 : Hid (Blk w12 g7 37 [.slice (some ⟨gl, 0, none⟩) n0 c0, .slice a3 n1 c3]) := by rw [hw.out]; exact hid (HV11.out.set 1 _).1
                  clear hw f11 v11
                  have HO12 := hid (OwnF.keepsO HO11.out K12 (fun b hb e => OwnF.not_blk HO11.out HV11.out rfl (by rw [← show b = g7 from e]; exact hb)))
                  have HR12 := hid ((HR10.out.old HB11.out).keeps K12 (fun e => hne7 e.symm))
                  have HT12 := hid ((HT.out.old HB11.out).keeps (S := fun b => b = g7) K12 (fun e => by have := HLO.out; omega))
                  have HB12 := hid ((below_step HB.out HB11.out (Nat.le_refl _)).trans (K12.below (by have := HB.out.size; have := HB11.out.size; omega) (fun q hq e => by have := HLO.out; omega)))
                  have hs12 := K12.size
                  have hs11 := HB11.out.size
                  have HS12 := hid (OwnF.toS HO12.out)
                  have HO : Hid (OwnY w12 W.heap.size w12.heap.size ⟨⟨some ⟨gl, 0, none⟩, n0, c0⟩, ⟨a3, n1, c3⟩, Y.last.set ix vt, ((Y.acts ++ [vt]).drop 1)⟩) := hid (by
                    refine ⟨Nat.le_refl _, OwnS.of_row HR12.out hgl0, HS12.out.mono (by omega), fun b hb => ?_, fun b hb => (HS12.out.lt hb).2, fun b hb hb' => ?_⟩
                    · have e : gl = b := by have h := hb.2; simpa using h
                      have := HR12.out.lt; omega
                    · have e : gl = b := by have h := hb.2; simpa using h
                      have := (HS12.out.lt hb').1; omega)
                  clear HV HT HB HV11 HO11 HO12 K12 HS12
                  have HV := HV12
                  have HT := HT12
                  have HB := HB12
                  clear HV12 HT12 HB12
                  have z0 : w12.cell? ⟨g7, 0, none⟩ = some (.slice (some ⟨gl, 0, none⟩) n0 c0) := HV.out.cell (j := 0) rfl
                  have z1 : w12.cell? ⟨g7, 1, none⟩ = some (.slice a3 n1 c3) := HV.out.cell (j := 1) rfl
                  have d0 := HT.out.cell (j := 0) rfl
                  have d1 := HT.out.cell (j := 1) rfl
                  have f0 := HT.out.frozen 0
                  have f1 := HT.out.frozen 1
                  have HKK := hid (stored2 w12 (w.heap.size + 3) (.slice (some ⟨gl, 0, none⟩) n0 c0) (.slice a3 n1 c3))
                  go_wp2_with fail
                  refine bodyPost_ret (v := .agg #[.slice (some ⟨gl, 0, none⟩) n0 c0, .slice a3 n1 c3]) (by simp [results, Try.results30, go_sem, d0, d1]) rfl ⟨⟨⟨(some ⟨gl, 0, none⟩), n0, c0⟩, ⟨a3, n1, c3⟩, (Y.last.set ix vt), ((Y.acts ++ [vt]).drop 1)⟩, rfl, ?_, by rw [HGO.out]; show (⟨Y.last.set ix vt, ((Y.acts ++ [vt]).drop 1)⟩ : RdyD) = ⟨Y.last.set (lastPl G ⟨kk, kb, kr, kc⟩).toNat vt, if (kk == 1) = true then last4 (Y.acts ++ [vt]) else Y.acts⟩; rw [hk1, HD0.out, H4.out]; rfl, ?_⟩
                  · exact OwnY.up (OwnY.mono (OwnY.keeps HO.out HKK.out (fun b h1 h2 h3 => by have := HLO.out; omega)) (by have := HLO.out; omega)) (Nat.le_trans HO.out.le HKK.out.size) (Nat.le_refl _)
                  · exact HB.out.trans (HKK.out.below HB.out.size (fun k hk hS => by omega))
          · have hni : ¬ (0 : Int) < (Y.s1.n : Int) := by omega
            have hni2 : decide ((0 : Int) < (Y.s1.n : Int)) = false := by simpa using hni
            have HGO := hid (readyAfter_yes (goY_yes (V := ⟨vt, ⟨kk, kb, kr, kc⟩⟩) HRK.out HCK.out HTK.out (by unfold lateY; dsimp only; rw [show Y.d.acts.length = Y.s1.n from HN1.out.symm]; simp; omega)))
            obtain ⟨hle, e0, e1, e2, e3, e4⟩ := HE.out
            obtain ⟨hly, y0, y1⟩ := HK.out
            obtain ⟨hlg, g0, g1, g2, g3⟩ := HG.out
            have hov := over_cell w3
            refine wp_region_over (by kernel_rfl) (by kernel_rfl) ?_
            repeat (go_big_quiet_step ((first | (go_at_call 22; exact calls_over (calls_bool hrk ((implReadyOk_any G Y _ (HX.out.old (Over.below _)) HSM.out)))) | (go_at_call 84; exact calls_over (calls_bool hck (implCommandOk_any G ⟨kk, kb, kr, kc⟩ _))) | (go_at_call 81; with_reducible exact calls_over_same (between_of htk)))))
            refine wpQuiet_nil ?_
            intro w6 B
            have HT := hid (HT.out.old B)
            have HB := hid (below_step HB.out B (Nat.le_refl _))
            have HO := hid (HO.out.old B)
            have HOF := hid (OwnF.old HOF.out B)
            have HV := hid (HV.out.old B)
            have HE := hid (HE.out.old B)
            have HG := hid (HG.out.old B)
            have HK := hid (HK.out.old B)
            have HX := hid (HX.out.old B)
            clear B hov e0 e1 e2 e3 e4 y0 y1 g0 g1 g2 g3 hle hly hlg
            have HBK := hid (bkOk_of HCK.out)
            obtain ⟨_, hq1, hq2⟩ := readyOk_parts HRK.out
            have HRL : Hid (n0 = readyLen G) := hid (by
              have h1 := HL0.out
              have h2 := (readyLen_bd G).2
              have h3 : (Y.last.length : Int) = 9 * (bankN G + 1) := hq1
              omega)
            have HA4 : Hid (n1 ≤ 4) := hid (by
              have h1 := HL1.out
              have h3 : Y.acts.length ≤ 4 := hq2
              omega)
            clear hq1 hq2
            obtain ⟨hp0, hp1⟩ := lastPl_bd HBK.out
            obtain ⟨ix, hix⟩ : ∃ ix : Nat, lastPl G ⟨kk, kb, kr, kc⟩ = (ix : Int) := ⟨(lastPl G ⟨kk, kb, kr, kc⟩).toNat, by omega⟩
            have HIX := hid hix
            have hix2 : ix < n0 := by have := HRL.out; omega
            have hi0 : (0 : Int) ≤ (ix : Int) := by omega
            have hi1 : (ix : Int) < (n0 : Int) := by omega
            have hn0 : 0 < n0 := by omega
            clear hp0 hp1 hix
            obtain ⟨gl, hgl, hgl0, HRr⟩ := HO.out.last.row (Nat.ne_of_gt hn0)
            have hgl1 := HO.out.t0 gl ⟨Nat.ne_of_gt hn0, hgl⟩
            dsimp only at hgl HRr hgl1
            subst hgl
            have HR := hid HRr
            clear HRr
            have hrow := HR.out.2
            have HAP : Hid (∀ b, (Value.slice a1 n1 c1).ownBlock = some b → ¬ b = gl) := hid (fun b hb e => by
              by_cases hn : n1 = 0
              · have hc := HZ1.out hn
                rcases HOF.out.row.2 with ⟨hv, _⟩ | ⟨g', cap', cur, hv, hg1, hg', h5, h6, h7, h8⟩
                · rw [hv] at hb; cases hb
                · rcases hrow with ⟨hv2, _⟩ | ⟨g2, cap2, cur2, hv2, hg2, hg2', k5, k6, k7, k8⟩
                  · cases hv2
                  · rw [hv, ownBlock_slice] at hb
                    simp only [Option.some.injEq] at hb
                    injection hv with _ _ e3
                    injection hv2 with e4 _ e5
                    simp only [Option.some.injEq, Addr.mk.injEq, and_true] at e4
                    have e6 : g' = g2 := by omega
                    rw [e6, hg2'] at hg'
                    simp only [Option.some.injEq, Obj.cells.injEq] at hg'
                    have e7 : cur2.size = cur.size := by rw [hg'.1]
                    omega
              · have hs := HO.out.acts
                obtain ⟨q, hq, _, _⟩ := hs.row hn
                dsimp only at hq
                rw [hq] at hb
                rw [ownBlock_slice] at hb
                simp only [Option.some.injEq] at hb
                exact HO.out.apart gl ⟨Nat.ne_of_gt hn0, rfl⟩ ⟨hn, by show a1 = _; rw [hq, hb, e]⟩)
            clear hrow
            go_upto_region 6 with (fail)
            refine growR_of 9 (fr := ?fr3)
              (fun i v w' => match i with
                  | 0 => v = .pointer (some ⟨g7, 0, none⟩)
                  | 1 => v = .slice (some ⟨gl, 0, none⟩) n0 c0
                  | 2 => v = .agg #[.int .i64 G.a, .int .i64 G.b, .int .i64 G.r, .int .i64 G.c]
                  | 3 => v = .pointer (some ⟨w.heap.size + 2, 1, none⟩)
                  | 4 => v = .agg #[.int .i64 kk, .int .i64 kb, .int .i64 kr, .int .i64 kc]
                  | 5 => v = .int .i64 (lastPl G ⟨kk, kb, kr, kc⟩)
                  | 6 => v = .pointer (some ⟨w.heap.size + 2, 0, none⟩)
                  | 7 => v = .int .i64 vt
                  | _ => v = .pointer (some ⟨gl, ix, none⟩)
                ) (by kernel_rfl) (by kernel_rfl) (by decide) (by kernel_rfl) ?hfr3 ⟨fun _ => undef, ?h03⟩ ?hF3 ?hstep3 ?hend3
            case hfr3 => intro vs; simp only [frOf, List.take_succ_cons, List.take_zero]; go_simp; exact rfl
            case h03 => rfl
            case hF3 =>
              intro i v w' w'' h hb
              match i, h with
              | 0, h => exact h
              | 1, h => exact h
              | 2, h => exact h
              | 3, h => exact h
              | 4, h => exact h
              | 5, h => exact h
              | 6, h => exact h
              | 7, h => exact h
              | n + 8, h => exact h
            case hstep3 =>
              intro vs w' i o hin ho hb hd
              match i, ho, hin with
              | 0, ho, _ =>
                simp only [List.getElem?_cons_zero, Option.some.injEq] at ho
                subst ho
                refine ⟨wanted_none rfl, ?_⟩
                generalize hK : (fun (a' : Act) (w'' : World) => ∃ v : Value, _ ∧ _ ∧ _) = K
                go_simp
                rw [← hK]
                exact ⟨_, rfl, rfl, Below.refl _ _⟩
              | 1, ho, _ =>
                simp only [List.getElem?_cons_succ, List.getElem?_cons_zero, Option.some.injEq] at ho
                subst ho
                refine ⟨wanted_none rfl, ?_⟩
                have e0 : vs 0 = .pointer (some ⟨g7, 0, none⟩) := hd 0 (by kernel_rfl)
                have q0 : w'.cell? ⟨g7, 0, none⟩ = some (.slice (some ⟨gl, 0, none⟩) n0 c0) := (HV.out.old hb).cell (j := 0) rfl
                generalize hK : (fun (a' : Act) (w'' : World) => ∃ v : Value, _ ∧ _ ∧ _) = K
                generalize hu : vs 0 = u at e0 ⊢
                subst e0
                go_simp
                rw [← hK]
                exact ⟨_, by simp [upd, hu], rfl, Below.refl _ _⟩
              | 2, ho, _ =>
                simp only [List.getElem?_cons_succ, List.getElem?_cons_zero, Option.some.injEq] at ho
                subst ho
                refine ⟨wanted_none rfl, ?_⟩
                obtain ⟨_, g0, g1, g2, g3⟩ := HG.out.old hb
                generalize hK : (fun (a' : Act) (w'' : World) => ∃ v : Value, _ ∧ _ ∧ _) = K
                go_simp
                rw [← hK]
                exact ⟨_, rfl, rfl, Below.refl _ _⟩
              | 3, ho, _ =>
                simp only [List.getElem?_cons_succ, List.getElem?_cons_zero, Option.some.injEq] at ho
                subst ho
                refine ⟨wanted_none rfl, ?_⟩
                generalize hK : (fun (a' : Act) (w'' : World) => ∃ v : Value, _ ∧ _ ∧ _) = K
                go_simp
                rw [← hK]
                exact ⟨_, rfl, rfl, Below.refl _ _⟩
              | 4, ho, _ =>
                simp only [List.getElem?_cons_succ, List.getElem?_cons_zero, Option.some.injEq] at ho
                subst ho
                refine ⟨wanted_none rfl, ?_⟩
                have e3 : vs 3 = .pointer (some ⟨w.heap.size + 2, 1, none⟩) := hd 3 (by kernel_rfl)
                obtain ⟨_, q0, q1, q2, q3, q4⟩ := HE.out.old hb
                generalize hK : (fun (a' : Act) (w'' : World) => ∃ v : Value, _ ∧ _ ∧ _) = K
                generalize hu : vs 3 = u at e3 ⊢
                subst e3
                go_simp
                rw [← hK]
                exact ⟨_, by simp [upd, hu], rfl, Below.refl _ _⟩
              | 5, ho, _ =>
                simp only [List.getElem?_cons_succ, List.getElem?_cons_zero, Option.some.injEq] at ho
                subst ho
                refine ⟨wanted_none rfl, ?_⟩
                have e2 : Hid (vs 2 = .agg #[.int .i64 G.a, .int .i64 G.b, .int .i64 G.r, .int .i64 G.c]) := hd 2 (by kernel_rfl)
                have e4 : Hid (vs 4 = .agg #[.int .i64 kk, .int .i64 kb, .int .i64 kr, .int .i64 kc]) := hd 4 (by kernel_rfl)
                generalize hK : (fun (a' : Act) (w'' : World) => ∃ v : Value, _ ∧ _ ∧ _) = K
                go_simp
                refine (calls_args (by rw [e2.out, e4.out]) (lastPlace_any G ⟨kk, kb, kr, kc⟩ _ HBK.out)).mono ?_
                rintro e w2 ⟨rfl, B⟩
                rw [← hK]
                exact ⟨_, rfl, rfl, B⟩
              | 6, ho, _ =>
                simp only [List.getElem?_cons_succ, List.getElem?_cons_zero, Option.some.injEq] at ho
                subst ho
                refine ⟨wanted_none rfl, ?_⟩
                generalize hK : (fun (a' : Act) (w'' : World) => ∃ v : Value, _ ∧ _ ∧ _) = K
                go_simp
                rw [← hK]
                exact ⟨_, rfl, rfl, Below.refl _ _⟩
              | 7, ho, _ =>
                simp only [List.getElem?_cons_succ, List.getElem?_cons_zero, Option.some.injEq] at ho
                subst ho
                refine ⟨wanted_none rfl, ?_⟩
                have e6 : vs 6 = .pointer (some ⟨w.heap.size + 2, 0, none⟩) := hd 6 (by kernel_rfl)
                obtain ⟨_, q0, q1, q2, q3, q4⟩ := HE.out.old hb
                generalize hK : (fun (a' : Act) (w'' : World) => ∃ v : Value, _ ∧ _ ∧ _) = K
                generalize hu : vs 6 = u at e6 ⊢
                subst e6
                go_simp
                rw [← hK]
                exact ⟨_, by simp [upd, hu], rfl, Below.refl _ _⟩
              | 8, ho, _ =>
                simp only [List.getElem?_cons_succ, List.getElem?_cons_zero, Option.some.injEq] at ho
                subst ho
                refine ⟨wanted_none rfl, ?_⟩
                have e1 : vs 1 = .slice (some ⟨gl, 0, none⟩) n0 c0 := hd 1 (by kernel_rfl)
                have e5 : vs 5 = .int .i64 (ix : Int) := HIX.out ▸ hd 5 (by kernel_rfl)
                generalize hK : (fun (a' : Act) (w'' : World) => ∃ v : Value, _ ∧ _ ∧ _) = K
                generalize hu : vs 1 = u at e1 ⊢
                subst e1
                generalize hu5 : vs 5 = u5 at e5 ⊢
                subst e5
                go_simp
                rw [← hK]
                exact ⟨_, by simp [upd, hu, hu5], rfl, Below.refl _ _⟩
              | n + 9, _, hin => exact absurd hin (by omega)
            case hend3 =>
              intro vs w7 hb hf
              have e7 : vs 7 = .int .i64 vt := hf 7 (by decide)
              have e8 : vs 8 = .pointer (some ⟨gl, ix, none⟩) := hf 8 (by decide)
              have HT := hid (HT.out.old hb)
              have HB := hid (below_step HB.out hb (Nat.le_refl _))
              have HO := hid (HO.out.old hb)
              have HOF := hid (OwnF.old HOF.out hb)
              have HV := hid (HV.out.old hb)
              have HE := hid (HE.out.old hb)
              have HG := hid (HG.out.old hb)
              have HK := hid (HK.out.old hb)
              have HX := hid (HX.out.old hb)
              have HR := hid (HR.out.old hb)
              clear hf hb
              generalize vs 7 = u7 at e7 ⊢
              subst e7
              generalize vs 8 = u8 at e8 ⊢
              subst e8
              obtain ⟨x, hx⟩ := some_at HL0.out hix2
              have c3 := HR.out.cell hx
              have f3 := HR.out.frozen ix
              have HS := hid (HR.out.set ix vt)
              have hgl7 := HR.out.lt
              clear hx
              simp only [List.drop_succ_cons, List.drop_zero]
              refine wpTail_plain rfl fun K hK => ?_
              go_simp
              refine hK _ _ (wpTail_nil ?_)
              clear c3 f3
              go_upto_region 7 with (fail)
              refine wp_world (fun w8 hw => ?_)
              have K8 : Keeps (· = gl) w7 w8 := by rw [hw.out]; exact HS.out.2
              have HR8 : Hid (IRow w8 gl n0 c0 (Y.last.set ix vt)) := by rw [hw.out]; exact hid HS.out.1
              clear hw HS
              have hne7 : ¬ g7 = gl := by have := HLO.out; omega
              have HV := hid (Blk.keeps (S := fun b => b = gl) HV.out K8 hne7)
              have HT := hid (Blk.keeps (S := fun b => b = gl) HT.out K8 (fun e => by have := HLO.out; omega))
              have HB := hid (HB.out.trans (K8.below HB.out.size (fun q hq hS => by have := HLO.out; omega)))
              have hE8 : ¬ (w.heap.size + 2 = gl) := by have := HLO.out; omega
              have e0' : w8.cell? ⟨w.heap.size + 2, 0, none⟩ = some (.int .i64 vt) := by
                obtain ⟨hl, q0, _⟩ := HE.out
                exact (K8.cell hl hE8 0).trans q0
              have hl8 : w.heap.size + 2 < w8.heap.size := Nat.lt_of_lt_of_le HE.out.lt K8.size
              have HAS := hid (HO.out.acts.keeps K8 (fun b hb e => HAP.out b (by rw [show a1 = some ⟨b, 0, none⟩ from hb.2]; rfl) e))
              have HD0 : Hid (∀ (z : List Int), (⟨Y.last.set ix vt, z⟩ : RdyD) = ⟨Y.last.set (lastPl G ⟨kk, kb, kr, kc⟩).toNat vt, z⟩) := hid (fun z => by rw [HIX.out]; rfl)
              have hs78 := K8.size
              have hle7 := HO.out.le
              have HOF8 : Hid (OwnF encN 1 3 w8 W.heap.size g7 a1 n1 c1 Y.acts) := hid (OwnF.keepsO HOF.out K8 (fun b hb e => HAP.out b hb e))
              clear HO HOF K8
              have v1 : w8.cell? ⟨g7, 1, none⟩ = some (.slice a1 n1 c1) := HV.out.cell (j := 1) rfl
              have f1 := HV.out.frozen 1
              have hgl8 := HR8.out.lt
              have hg78 := HV.out.lt
              have hWw8 := HLN.out
              go_upto_region 9 with (at_builtin; refine wpList_append_rec recN rfl _ _ rfl w8 W.heap.size g7 a1 n1 c1 Y.acts HOF8.out (by simp [go_sem]) vt _ rfl (by simp [go_sem]) (by have := HLO.out; omega) (by have := HA4.out; omega) ?_; intro a2 c2 w9 O9 K9; have HK9 := hid K9; have HO9 := hid O9; have HV9 := hid (HV.out.keeps K9 (OwnF.not_blk HOF8.out HV.out rfl)); have v9 := HV9.out.cell (j := 1) rfl; have f9 := HV9.out.frozen 1; have l9 := HV9.out.lt; clear K9 O9 v1 f1)
              refine wp_world (fun w10 hw => ?_)
              have K10 : Keeps (· = g7) w9 w10 := by rw [hw.out]; exact (HV9.out.set 1 _).2
              have HV10 : Hid (Blk w10 g7 37 [.slice (some ⟨gl, 0, none⟩) n0 c0, .slice a2 (n1 + 1) c2]) := by rw [hw.out]; exact hid (HV9.out.set 1 _).1
              clear hw v9 f9
              have HO10 := hid (OwnF.keepsO HO9.out K10 (fun b hb e => OwnF.not_blk HO9.out HV9.out rfl (by rw [← show b = g7 from e]; exact hb)))
              have HR10 := hid ((HR8.out.keeps HK9.out (fun hS => HAP.out gl hS rfl)).keeps K10 (fun e => hne7 e.symm))
              have HT10 := hid ((HT.out.keeps HK9.out (fun hS => by have h9 := (HOF8.out.row.lt _ hS).1; have := HLO.out; omega)).keeps (S := fun b => b = g7) K10 (fun e => by have := HLO.out; omega))
              have HB10 := hid ((HB.out.trans (HK9.out.below HB.out.size (fun q hq hS => by have h9 := (HOF8.out.row.lt _ hS).1; have := HLO.out; omega))).trans (K10.below (by have := HB.out.size; have := HK9.out.size; omega) (fun q hq e => by have := HLO.out; omega)))
              clear HV9 HO9 HK9 K10 HOF8 HV HT HB HR8
              have HT := HT10
              have HB := HB10
              have HV := HV10
              clear HT10 HB10 HV10
              obtain ⟨ga, hga, hga1, hga2⟩ := OwnF.form HO10.out (Nat.succ_pos _)
              subst hga
              have hcap := HO10.out.le_cap
              have HA10 := hid (RecR.ints (OwnF.reads encN_len (by decide) HO10.out))
              have hga10 := HO10.out.le
              clear HO10
              have hl10 := HV.out.lt
              have HE := hid (OwnF.of_lit (f := encN) (k := 1) (T := 3) w10 rfl)
              have v1 : w10.cell? ⟨g7, 1, none⟩ = some (.slice (some ⟨ga, 0, none⟩) (n1 + 1) c2) := HV.out.cell (j := 1) rfl
              have hn4 := HA4.out
              by_cases hn5 : n1 = 4
              rotate_left
              · have HLA : Hid (Y.acts.length = n1) := hid HL1.out.symm
                have HRD : Hid (RecR encN 1 (w10.alloc (.cells #[] 3)) (some ⟨ga, 0, none⟩) (Y.acts ++ [vt])) := hid (IntsR.recs ((HA10.out).old (below_alloc _ _)))
                have HLEN : Hid ((n1 + 1) = (Y.acts ++ [vt]).length) := hid (by rw [List.length_append, HLA.out]; rfl)
                have h4 : last4 (Y.acts ++ [vt]) = (Y.acts ++ [vt]) := by
                  unfold last4
                  have h : (Y.acts ++ [vt]).length - 4 = 0 := by rw [List.length_append, HLA.out]; show n1 + 1 - 4 = 0; omega
                  rw [h]; rfl
                skip
                skip
                skip
                obtain ⟨d, hd⟩ : ∃ d : Int, (n1 : Int) + 1 - 4 = d := ⟨_, rfl⟩
                have hdz : ¬ (0 : Int) < d := by omega
                have s1 : IntKind.i64.wrap (((n1 + 1 : Nat) : Int) - 4) = d := by rw [IntWalk.i64_in _ (by omega)]; omega
                have s2 : IntKind.i64.wrap ((n1 : Int) + 1 - 4) = d := by rw [IntWalk.i64_in _ (by omega)]; omega
                have s3 : wrap64 ((n1 : Int) + 1 - 4) = d := by rw [IntWalk.wrap64_in _ (by omega)]; omega
                have hn6 : n1 ≤ 1048576 := by omega
                clear hn5 hn4 hd
                have H4 := hid h4
                clear h4
                go_upto_region 10 with (at_builtin; refine wpList_append_newrow recN rfl _ _ rfl _ w10.heap.size _ w10.heap.size HE.out (by simp [go_sem]) (some ⟨ga, 0, none⟩) (n1 + 1) c2 (Y.acts ++ [vt]) HRD.out HLEN.out (by simp [go_sem]) (by simp) (by omega) ?_; intro a3 c3 w11 O11 B11; have HO11 := hid O11; have HB11 := hid ((below_alloc w10 (.cells #[] 3)).trans (B11.mono (by simp))); have HV11 := hid (HV.out.old HB11.out); have f11 := HV11.out.frozen 1; have v11 := HV11.out.cell (j := 1) rfl; clear O11 B11 v1)
                refine wp_world (fun w12 hw => ?_)
                have K12 : Keeps (· = g7) w11 w12 := by rw [hw.out]; exact (HV11.out.set 1 _).2
                have HV12 : Hid (Blk w12 g7 37 [.slice (some ⟨gl, 0, none⟩) n0 c0, .slice a3 (n1 + 1) c3]) := by rw [hw.out]; exact hid (HV11.out.set 1 _).1
                clear hw f11 v11
                have HO12 := hid (OwnF.keepsO HO11.out K12 (fun b hb e => OwnF.not_blk HO11.out HV11.out rfl (by rw [← show b = g7 from e]; exact hb)))
                have HR12 := hid ((HR10.out.old HB11.out).keeps K12 (fun e => hne7 e.symm))
                have HT12 := hid ((HT.out.old HB11.out).keeps (S := fun b => b = g7) K12 (fun e => by have := HLO.out; omega))
                have HB12 := hid ((below_step HB.out HB11.out (Nat.le_refl _)).trans (K12.below (by have := HB.out.size; have := HB11.out.size; omega) (fun q hq e => by have := HLO.out; omega)))
                have hs12 := K12.size
                have hs11 := HB11.out.size
                have HS12 := hid (OwnF.toS HO12.out)
                have HO : Hid (OwnY w12 W.heap.size w12.heap.size ⟨⟨some ⟨gl, 0, none⟩, n0, c0⟩, ⟨a3, (n1 + 1), c3⟩, Y.last.set ix vt, (Y.acts ++ [vt])⟩) := hid (by
                  refine ⟨Nat.le_refl _, OwnS.of_row HR12.out hgl0, HS12.out.mono (by omega), fun b hb => ?_, fun b hb => (HS12.out.lt hb).2, fun b hb hb' => ?_⟩
                  · have e : gl = b := by have h := hb.2; simpa using h
                    have := HR12.out.lt; omega
                  · have e : gl = b := by have h := hb.2; simpa using h
                    have := (HS12.out.lt hb').1; omega)
                clear HV HT HB HV11 HO11 HO12 K12 HS12
                have HV := HV12
                have HT := HT12
                have HB := HB12
                clear HV12 HT12 HB12
                have z0 : w12.cell? ⟨g7, 0, none⟩ = some (.slice (some ⟨gl, 0, none⟩) n0 c0) := HV.out.cell (j := 0) rfl
                have z1 : w12.cell? ⟨g7, 1, none⟩ = some (.slice a3 (n1 + 1) c3) := HV.out.cell (j := 1) rfl
                have d0 := HT.out.cell (j := 0) rfl
                have d1 := HT.out.cell (j := 1) rfl
                have f0 := HT.out.frozen 0
                have f1 := HT.out.frozen 1
                have HKK := hid (stored2 w12 (w.heap.size + 3) (.slice (some ⟨gl, 0, none⟩) n0 c0) (.slice a3 (n1 + 1) c3))
                go_wp2_with fail
                refine bodyPost_ret (v := .agg #[.slice (some ⟨gl, 0, none⟩) n0 c0, .slice a3 (n1 + 1) c3]) (by simp [results, Try.results30, go_sem, d0, d1]) rfl ⟨⟨⟨(some ⟨gl, 0, none⟩), n0, c0⟩, ⟨a3, (n1 + 1), c3⟩, (Y.last.set ix vt), (Y.acts ++ [vt])⟩, rfl, ?_, by rw [HGO.out]; show (⟨Y.last.set ix vt, (Y.acts ++ [vt])⟩ : RdyD) = ⟨Y.last.set (lastPl G ⟨kk, kb, kr, kc⟩).toNat vt, if (kk == 1) = true then last4 (Y.acts ++ [vt]) else Y.acts⟩; rw [hk1, HD0.out, H4.out]; rfl, ?_⟩
                · exact OwnY.up (OwnY.mono (OwnY.keeps HO.out HKK.out (fun b h1 h2 h3 => by have := HLO.out; omega)) (by have := HLO.out; omega)) (Nat.le_trans HO.out.le HKK.out.size) (Nat.le_refl _)
                · exact HB.out.trans (HKK.out.below HB.out.size (fun k hk hS => by omega))
              · have HLA : Hid (Y.acts.length = n1) := hid HL1.out.symm
                have HRD : Hid (RecR encN 1 (w10.alloc (.cells #[] 3)) (some ⟨ga, 1, none⟩) ((Y.acts ++ [vt]).drop 1)) := hid (IntsR.recs ((HA10.out.drop 1).old (below_alloc _ _)))
                have HLEN : Hid (n1 = ((Y.acts ++ [vt]).drop 1).length) := hid (by rw [List.length_drop, List.length_append, HLA.out]; rfl)
                have h4 : last4 (Y.acts ++ [vt]) = ((Y.acts ++ [vt]).drop 1) := by
                  unfold last4
                  have h : (Y.acts ++ [vt]).length - 4 = 1 := by rw [List.length_append, HLA.out]; show n1 + 1 - 4 = 1; omega
                  rw [h]
                have hc1 : ¬ c2 = 1 := by omega
                have hc2 : ¬ c2 ≤ 1 := by omega
                have hc3 : 1 < c2 := by omega
                obtain ⟨d, hd⟩ : ∃ d : Int, (n1 : Int) + 1 - 4 = d := ⟨_, rfl⟩
                have hdz : d = 1 := by omega
                have s1 : IntKind.i64.wrap (((n1 + 1 : Nat) : Int) - 4) = 1 := by rw [IntWalk.i64_in _ (by omega)]; omega
                have s2 : IntKind.i64.wrap ((n1 : Int) + 1 - 4) = 1 := by rw [IntWalk.i64_in _ (by omega)]; omega
                have s3 : wrap64 ((n1 : Int) + 1 - 4) = 1 := by rw [IntWalk.wrap64_in _ (by omega)]; omega
                have hn6 : n1 ≤ 1048576 := by omega
                clear hn5 hn4 hd
                have H4 := hid h4
                clear h4
                go_upto_region 10 with (at_builtin; refine wpList_append_newrow recN rfl _ _ rfl _ w10.heap.size _ w10.heap.size HE.out (by simp [go_sem]) (some ⟨ga, 1, none⟩) n1 (c2 - 1) ((Y.acts ++ [vt]).drop 1) HRD.out HLEN.out (by simp [go_sem]) (by simp) (by omega) ?_; intro a3 c3 w11 O11 B11; have HO11 := hid O11; have HB11 := hid ((below_alloc w10 (.cells #[] 3)).trans (B11.mono (by simp))); have HV11 := hid (HV.out.old HB11.out); have f11 := HV11.out.frozen 1; have v11 := HV11.out.cell (j := 1) rfl; clear O11 B11 v1)
                refine wp_world (fun w12 hw => ?_)
                have K12 : Keeps (· = g7) w11 w12 := by rw [hw.out]; exact (HV11.out.set 1 _).2
                have HV12 : Hid (Blk w12 g7 37 [.slice (some ⟨gl, 0, none⟩) n0 c0, .slice a3 n1 c3]) := by rw [hw.out]; exact hid (HV11.out.set 1 _).1
                clear hw f11 v11
                have HO12 := hid (OwnF.keepsO HO11.out K12 (fun b hb e => OwnF.not_blk HO11.out HV11.out rfl (by rw [← show b = g7 from e]; exact hb)))
                have HR12 := hid ((HR10.out.old HB11.out).keeps K12 (fun e => hne7 e.symm))
                have HT12 := hid ((HT.out.old HB11.out).keeps (S := fun b => b = g7) K12 (fun e => by have := HLO.out; omega))
                have HB12 := hid ((below_step HB.out HB11.out (Nat.le_refl _)).trans (K12.below (by have := HB.out.size; have := HB11.out.size; omega) (fun q hq e => by have := HLO.out; omega)))
                have hs12 := K12.size
                have hs11 := HB11.out.size
                have HS12 := hid (OwnF.toS HO12.out)
                have HO : Hid (OwnY w12 W.heap.size w12.heap.size ⟨⟨some ⟨gl, 0, none⟩, n0, c0⟩, ⟨a3, n1, c3⟩, Y.last.set ix vt, ((Y.acts ++ [vt]).drop 1)⟩) := hid (by
                  refine ⟨Nat.le_refl _, OwnS.of_row HR12.out hgl0, HS12.out.mono (by omega), fun b hb => ?_, fun b hb => (HS12.out.lt hb).2, fun b hb hb' => ?_⟩
                  · have e : gl = b := by have h := hb.2; simpa using h
                    have := HR12.out.lt; omega
                  · have e : gl = b := by have h := hb.2; simpa using h
                    have := (HS12.out.lt hb').1; omega)
                clear HV HT HB HV11 HO11 HO12 K12 HS12
                have HV := HV12
                have HT := HT12
                have HB := HB12
                clear HV12 HT12 HB12
                have z0 : w12.cell? ⟨g7, 0, none⟩ = some (.slice (some ⟨gl, 0, none⟩) n0 c0) := HV.out.cell (j := 0) rfl
                have z1 : w12.cell? ⟨g7, 1, none⟩ = some (.slice a3 n1 c3) := HV.out.cell (j := 1) rfl
                have d0 := HT.out.cell (j := 0) rfl
                have d1 := HT.out.cell (j := 1) rfl
                have f0 := HT.out.frozen 0
                have f1 := HT.out.frozen 1
                have HKK := hid (stored2 w12 (w.heap.size + 3) (.slice (some ⟨gl, 0, none⟩) n0 c0) (.slice a3 n1 c3))
                go_wp2_with fail
                refine bodyPost_ret (v := .agg #[.slice (some ⟨gl, 0, none⟩) n0 c0, .slice a3 n1 c3]) (by simp [results, Try.results30, go_sem, d0, d1]) rfl ⟨⟨⟨(some ⟨gl, 0, none⟩), n0, c0⟩, ⟨a3, n1, c3⟩, (Y.last.set ix vt), ((Y.acts ++ [vt]).drop 1)⟩, rfl, ?_, by rw [HGO.out]; show (⟨Y.last.set ix vt, ((Y.acts ++ [vt]).drop 1)⟩ : RdyD) = ⟨Y.last.set (lastPl G ⟨kk, kb, kr, kc⟩).toNat vt, if (kk == 1) = true then last4 (Y.acts ++ [vt]) else Y.acts⟩; rw [hk1, HD0.out, H4.out]; rfl, ?_⟩
                · exact OwnY.up (OwnY.mono (OwnY.keeps HO.out HKK.out (fun b h1 h2 h3 => by have := HLO.out; omega)) (by have := HLO.out; omega)) (Nat.le_trans HO.out.le HKK.out.size) (Nat.le_refl _)
                · exact HB.out.trans (HKK.out.below HB.out.size (fun k hk hS => by omega))
end Go.Proofs.Ytggjheapjklhgaa
