/- ReadyAfter: what the program's and the reference's return. -/
import Derived.Test.YtggjheapjklhgaaRyD
namespace Go.Proofs.Ytggjheapjklhgaa
open Go.RowKit
/-- Does an activation come too early for the summary? -/
def lateY (D : RdyD) (V : Ev) : Bool := V.c.k == 1 && (decide (0 < D.acts.length) && decide (V.t ≤ D.acts.getD (D.acts.length - 1) 0))
def goY (G : Geo) (D : RdyD) (V : Ev) : Bool := readyOk G D && (cmdOk G V.c && (inB V.t 0 1000000 && !lateY D V))
def readyAfter (G : Geo) (D : RdyD) (V : Ev) : RdyD := if goY G D V = true then doY G D V else D
theorem readyAfter_no {G : Geo} {D : RdyD} {V : Ev} (h : goY G D V = false) : readyAfter G D V = D := by unfold readyAfter; rw [if_neg (by simp [h])]
theorem readyAfter_yes {G : Geo} {D : RdyD} {V : Ev} (h : goY G D V = true) : readyAfter G D V = doY G D V := by unfold readyAfter; rw [if_pos h]
theorem last4_len (xs : List Int) : (last4 xs).length ≤ 4 := by unfold last4; simp; omega
theorem doY_len (G : Geo) (D : RdyD) (V : Ev) : (doY G D V).last.length = D.last.length ∧ (doY G D V).acts.length ≤ max D.acts.length 4 := by
  unfold doY
  refine ⟨by simp, ?_⟩
  dsimp only
  split
  · have := last4_len (D.acts ++ [V.t]); omega
  · omega
theorem readyAfter_len (G : Geo) (D : RdyD) (V : Ev) : (readyAfter G D V).last.length = D.last.length ∧ (readyAfter G D V).acts.length ≤ max D.acts.length 4 := by
  unfold readyAfter
  split
  · exact doY_len G D V
  · exact ⟨rfl, by omega⟩
theorem readyAfter_small {G : Geo} {D : RdyD} {V : Ev} {Z : RdyE} (h : readyAfter G D V = Z.d) (hs : D.last.length ≤ 1048576 ∧ D.acts.length ≤ 1048576) : Z.small := by
  obtain ⟨h1, h2⟩ := readyAfter_len G D V
  rw [h] at h1 h2
  have h1' : Z.last.length = D.last.length := h1
  have h2' : Z.acts.length ≤ max D.acts.length 4 := h2
  exact ⟨by omega, by omega⟩
theorem readyOk_parts {G : Geo} {D : RdyD} (h : readyOk G D = true) : gOk G = true ∧ (D.last.length : Int) = 9 * (bankN G + 1) ∧ D.acts.length ≤ 4 := by
  unfold readyOk lenY at h
  simp only [Bool.and_eq_true, beq_iff_eq, decide_eq_true_eq] at h
  exact ⟨h.1.1.1.1, h.1.1.1.2, h.1.1.2⟩
theorem goY_rk {G : Geo} {D : RdyD} {V : Ev} (h : readyOk G D = false) : goY G D V = false := by unfold goY; rw [h]; rfl
theorem goY_ck {G : Geo} {D : RdyD} {V : Ev} (h : cmdOk G V.c = false) : goY G D V = false := by unfold goY; rw [h]; simp
theorem goY_tk {G : Geo} {D : RdyD} {V : Ev} (h : inB V.t 0 1000000 = false) : goY G D V = false := by unfold goY; rw [h]; simp
theorem goY_late {G : Geo} {D : RdyD} {V : Ev} (h : lateY D V = true) : goY G D V = false := by unfold goY; rw [h]; simp
theorem goY_yes {G : Geo} {D : RdyD} {V : Ev} (h1 : readyOk G D = true) (h2 : cmdOk G V.c = true) (h3 : inB V.t 0 1000000 = true) (h4 : lateY D V = false) : goY G D V = true := by unfold goY; rw [h1, h2, h3, h4]; rfl
theorem calls_bool {P : Program} {f : FuncId} {args : Array Value} {w : World} {b c : Bool} (h : b = c) (k : Calls P f args w fun e w' => e = .returned (.bool b) ∧ Below w.heap.size w w') : Calls P f args w fun e w' => e = .returned (.bool c) ∧ Below w.heap.size w w' := h ▸ k
set_option maxHeartbeats 8000000 in
set_option maxRecDepth 100000 in
theorem specReadyAfter_any (G : Geo) (Y : RdyE) (V : Ev) (w : World) (hY : RdyR w Y) (hs : Y.small) :
    Calls Try.prog 26 #[.agg #[.int .i64 G.a, .int .i64 G.b, .int .i64 G.r, .int .i64 G.c], .agg #[.slice Y.s0.a Y.s0.n Y.s0.c, .slice Y.s1.a Y.s1.n Y.s1.c], .agg #[.int .i64 V.t, .int .i64 V.c.k, .int .i64 V.c.b, .int .i64 V.c.r, .int .i64 V.c.c]] w fun e w' => ∃ Y' : RdyE, e = .returned (.agg #[.slice Y'.s0.a Y'.s0.n Y'.s0.c, .slice Y'.s1.a Y'.s1.n Y'.s1.c]) ∧ OwnY w' w.heap.size w'.heap.size Y' ∧ Y'.d = readyAfter G Y.d V ∧ Below w.heap.size w w' := by
  have HX := hid hY
  have HSM := hid hs
  have HEV0 := hid (BoxEv.new_ ((w.alloc (.cells #[.int .i64 G.a, .int .i64 G.b, .int .i64 G.r, .int .i64 G.c] 25)).alloc (.cells #[.slice Y.s0.a Y.s0.n Y.s0.c, .slice Y.s1.a Y.s1.n Y.s1.c] 37)) 58 V (show _ = w.heap.size + 2 by simp))
  clear hY hs
  go_enter Try.func26, Try.ntmps26
  go_upto_region 1 with (fail)
  refine wp_world (fun W hw => ?_)
  have HG : Hid (BoxG W w.heap.size G) := by rw [hw.out]; exact hid ((((BoxG.new_ w 25 G rfl).old (below_alloc _ _)).old (below_alloc _ _)).old (below_alloc _ _))
  have HK : Hid (BoxY W (w.heap.size + 1) Y) := by rw [hw.out]; exact hid (((BoxY.new_ (w.alloc (.cells #[.int .i64 G.a, .int .i64 G.b, .int .i64 G.r, .int .i64 G.c] 25)) 37 Y (show _ = w.heap.size + 1 by simp)).old (below_alloc _ _)).old (below_alloc _ _))
  have HE : Hid (BoxEv W (w.heap.size + 2) V) := by rw [hw.out]; exact hid (HEV0.out.old (below_alloc _ _))
  have HT : Hid (Blk W (w.heap.size + 3) 37 [.slice none 0 0, .slice none 0 0]) := by rw [hw.out]; exact hid (by simpa using Blk.new (((w.alloc (.cells #[.int .i64 G.a, .int .i64 G.b, .int .i64 G.r, .int .i64 G.c] 25)).alloc (.cells #[.slice Y.s0.a Y.s0.n Y.s0.c, .slice Y.s1.a Y.s1.n Y.s1.c] 37)).alloc (.cells #[.int .i64 V.t, .int .i64 V.c.k, .int .i64 V.c.b, .int .i64 V.c.r, .int .i64 V.c.c] 58)) 37 [.slice none 0 0, .slice none 0 0])
  have HB : Hid (Below w.heap.size w W) := by rw [hw.out]; exact hid (below_allocs4 _ _ _ _ _)
  have HSW : Hid (W.heap.size = w.heap.size + 4) := by rw [hw.out]; exact hid (by simp)
  have HX := hid (HX.out.old HB.out)
  clear hw HEV0
  obtain ⟨_, y0, y1⟩ := HK.out
  go_wp2_with fail
  clear y0 y1
  refine (l10Copy_any Y _ HX.out HSM.out).mono ?_
  rintro e w2 ⟨⟨⟨a0, n0, c0⟩, ⟨a1, n1, c1⟩, la, ac⟩, rfl, O, D, B, OF, hz1⟩
  obtain ⟨d1, d2⟩ := RdyD.parts D
  have d1' : la = Y.last := d1
  have d2' : ac = Y.acts := d2
  subst d1'
  subst d2'
  have HO := hid O
  have HOF := hid OF
  have HZ1 : Hid (n1 = 0 → c1 = 0) := hid hz1
  have HLO : Hid (W.heap.size = w.heap.size + 4 ∧ W.heap.size ≤ w2.heap.size) := hid ⟨HSW.out, B.size⟩
  have HG := hid (HG.out.old B)
  have HK := hid (HK.out.old B)
  have HE := hid (HE.out.old B)
  have HT := hid (HT.out.old B)
  have HB := hid (below_step HB.out B (Nat.le_refl _))
  have HX := hid (HX.out.old B)
  clear D O B OF d1 d2 hz1
  go_upto_region 2 with (fail)
  refine wp_world (fun w3 hw => ?_)
  have HV : Hid (Blk w3 w2.heap.size 37 [.slice a0 n0 c0, .slice a1 n1 c1]) := by rw [hw.out]; exact hid (Blk.new _ _ _)
  have B : Below w2.heap.size w2 w3 := by rw [hw.out]; exact below_alloc _ _
  clear hw
  obtain ⟨g7, hg7⟩ : ∃ g7, g7 = w2.heap.size := ⟨_, rfl⟩
  rw [← hg7] at HV HLO HO HOF
  have HG := hid (HG.out.old B)
  have HK := hid (HK.out.old B)
  have HE := hid (HE.out.old B)
  have HT := hid (HT.out.old B)
  have HB := hid (below_step HB.out B (Nat.le_refl _))
  have HX := hid (HX.out.old B)
  have HO := hid (HO.out.old B)
  have HOF := hid (OwnF.old HOF.out B)
  rw [← hg7]
  have HLN : Hid (g7 ≤ w3.heap.size) := hid (by rw [hg7]; exact B.size)
  clear B hg7
  have HL0 : Hid (n0 = Y.last.length) := hid HO.out.last.length
  have HL1 : Hid (n1 = Y.acts.length) := hid HO.out.acts.length
  obtain ⟨vt, kk, kb, kr, kc⟩ := V
  dsimp only at HE ⊢
  obtain ⟨_, g0, g1, g2, g3⟩ := HG.out
  obtain ⟨_, y0, y1⟩ := HK.out
  go_wp2_with fail
  clear g0 g1 g2 g3 y0 y1
  refine (specReadyOk_any G Y _ HX.out HSM.out).mono ?_
  rintro e w4 ⟨rfl, B⟩
  have HT := hid (HT.out.old B)
  have HB := hid (below_step HB.out B (Nat.le_refl _))
  have HO := hid (HO.out.old B)
  have HOF := hid (OwnF.old HOF.out B)
  have HV := hid (HV.out.old B)
  have HE := hid (HE.out.old B)
  have HG := hid (HG.out.old B)
  have HK := hid (HK.out.old B)
  have HX := hid (HX.out.old B)
  clear B
  cases hrk : readyOk G Y.d with
  | false =>
    have HNO := hid (goY_rk (V := ⟨vt, ⟨kk, kb, kr, kc⟩⟩) hrk)
    have z0 : w4.cell? ⟨g7, 0, none⟩ = some (.slice a0 n0 c0) := HV.out.cell (j := 0) rfl
    have z1 : w4.cell? ⟨g7, 1, none⟩ = some (.slice a1 n1 c1) := HV.out.cell (j := 1) rfl
    have d0 := HT.out.cell (j := 0) rfl
    have d1 := HT.out.cell (j := 1) rfl
    have f0 := HT.out.frozen 0
    have f1 := HT.out.frozen 1
    have HKK := hid (stored2 w4 (w.heap.size + 3) (.slice a0 n0 c0) (.slice a1 n1 c1))
    go_wp2_with fail
    refine bodyPost_ret (v := .agg #[.slice a0 n0 c0, .slice a1 n1 c1]) (by simp [results, Try.results26, go_sem, d0, d1]) rfl ⟨⟨⟨a0, n0, c0⟩, ⟨a1, n1, c1⟩, Y.last, Y.acts⟩, rfl, ?_, (readyAfter_no HNO.out).symm, ?_⟩
    · exact OwnY.up (OwnY.mono (OwnY.keeps HO.out HKK.out (fun b h1 h2 h3 => by have := HLO.out; omega)) (by have := HLO.out; omega)) (Nat.le_trans HO.out.le HKK.out.size) (Nat.le_refl _)
    · exact HB.out.trans (HKK.out.below HB.out.size (fun k hk hS => by omega))
  | true =>
    have HRK := hid hrk
    clear hrk
    obtain ⟨_, g0, g1, g2, g3⟩ := HG.out
    obtain ⟨_, e0, e1, e2, e3, e4⟩ := HE.out
    go_wp2_with fail
    clear g0 g1 g2 g3 e0 e1 e2 e3 e4
    refine (specCommandOk_any G ⟨kk, kb, kr, kc⟩ _).mono ?_
    rintro e w5 ⟨rfl, B⟩
    have HT := hid (HT.out.old B)
    have HB := hid (below_step HB.out B (Nat.le_refl _))
    have HO := hid (HO.out.old B)
    have HOF := hid (OwnF.old HOF.out B)
    have HV := hid (HV.out.old B)
    have HE := hid (HE.out.old B)
    have HG := hid (HG.out.old B)
    have HK := hid (HK.out.old B)
    have HX := hid (HX.out.old B)
    clear B
    cases hck : cmdOk G ⟨kk, kb, kr, kc⟩ with
    | false =>
      have HNO := hid (goY_ck (D := Y.d) (V := ⟨vt, ⟨kk, kb, kr, kc⟩⟩) hck)
      have z0 : w5.cell? ⟨g7, 0, none⟩ = some (.slice a0 n0 c0) := HV.out.cell (j := 0) rfl
      have z1 : w5.cell? ⟨g7, 1, none⟩ = some (.slice a1 n1 c1) := HV.out.cell (j := 1) rfl
      have d0 := HT.out.cell (j := 0) rfl
      have d1 := HT.out.cell (j := 1) rfl
      have f0 := HT.out.frozen 0
      have f1 := HT.out.frozen 1
      have HKK := hid (stored2 w5 (w.heap.size + 3) (.slice a0 n0 c0) (.slice a1 n1 c1))
      go_wp2_with fail
      refine bodyPost_ret (v := .agg #[.slice a0 n0 c0, .slice a1 n1 c1]) (by simp [results, Try.results26, go_sem, d0, d1]) rfl ⟨⟨⟨a0, n0, c0⟩, ⟨a1, n1, c1⟩, Y.last, Y.acts⟩, rfl, ?_, (readyAfter_no HNO.out).symm, ?_⟩
      · exact OwnY.up (OwnY.mono (OwnY.keeps HO.out HKK.out (fun b h1 h2 h3 => by have := HLO.out; omega)) (by have := HLO.out; omega)) (Nat.le_trans HO.out.le HKK.out.size) (Nat.le_refl _)
      · exact HB.out.trans (HKK.out.below HB.out.size (fun k hk hS => by omega))
    | true =>
      have HCK := hid hck
      clear hck
      obtain ⟨_, e0, e1, e2, e3, e4⟩ := HE.out
      cases htk : inB vt 0 1000000 with
      | false =>
        have HNO := hid (goY_tk (G := G) (D := Y.d) (V := ⟨vt, ⟨kk, kb, kr, kc⟩⟩) htk)
        go_upto_region 3 with (go_at_call 89; with_reducible refine (l01In_of htk).mono ?_; rintro e w' ⟨rfl, rfl⟩)
        clear e0 e1 e2 e3 e4
        have z0 : w5.cell? ⟨g7, 0, none⟩ = some (.slice a0 n0 c0) := HV.out.cell (j := 0) rfl
        have z1 : w5.cell? ⟨g7, 1, none⟩ = some (.slice a1 n1 c1) := HV.out.cell (j := 1) rfl
        have d0 := HT.out.cell (j := 0) rfl
        have d1 := HT.out.cell (j := 1) rfl
        have f0 := HT.out.frozen 0
        have f1 := HT.out.frozen 1
        have HKK := hid (stored2 w5 (w.heap.size + 3) (.slice a0 n0 c0) (.slice a1 n1 c1))
        go_wp2_with fail
        refine bodyPost_ret (v := .agg #[.slice a0 n0 c0, .slice a1 n1 c1]) (by simp [results, Try.results26, go_sem, d0, d1]) rfl ⟨⟨⟨a0, n0, c0⟩, ⟨a1, n1, c1⟩, Y.last, Y.acts⟩, rfl, ?_, (readyAfter_no HNO.out).symm, ?_⟩
        · exact OwnY.up (OwnY.mono (OwnY.keeps HO.out HKK.out (fun b h1 h2 h3 => by have := HLO.out; omega)) (by have := HLO.out; omega)) (Nat.le_trans HO.out.le HKK.out.size) (Nat.le_refl _)
        · exact HB.out.trans (HKK.out.below HB.out.size (fun k hk hS => by omega))
      | true =>
        have HTK := hid htk
        go_upto_region 4 with (go_at_call 89; with_reducible refine (l01In_of htk).mono ?_; rintro e w' ⟨rfl, rfl⟩)
        clear htk e0 e1 e2 e3 e4
        obtain ⟨_, y0, y1⟩ := HK.out
        go_upto_region 5 with (fail)
        clear y0 y1
        have HN1 := hid HX.out.l1
        cases hk1 : (kk == 1) with
        | false =>
          have HGO := hid (readyAfter_yes (goY_yes (V := ⟨vt, ⟨kk, kb, kr, kc⟩⟩) HRK.out HCK.out HTK.out (by unfold lateY; dsimp only; rw [hk1]; rfl)))
          obtain ⟨hle, e0, e1, e2, e3, e4⟩ := HE.out
          obtain ⟨hly, y0, y1⟩ := HK.out
          have hov := over_cell w5
          refine wp_region_over (by kernel_rfl) (by kernel_rfl) ?_
          repeat (go_big_quiet_step (fail))
          refine wpQuiet_nil ?_
          intro w6 B
          have HT := hid (HT.out.old B)
          have HB := hid (below_step HB.out B (Nat.le_refl _))
          have HO := hid (HO.out.old B)
          have HOF := hid (OwnF.old HOF.out B)
          have HV := hid (HV.out.old B)
          have HE := hid (HE.out.old B)
          have HG := hid (HG.out.old B)
          have HK := hid (HK.out.old B)
          have HX := hid (HX.out.old B)
          clear B hov e0 e1 e2 e3 e4 y0 y1 hle hly
          have HBK := hid (bkOk_of HCK.out)
          obtain ⟨_, hq1, hq2⟩ := readyOk_parts HRK.out
          have HRL : Hid (n0 = readyLen G) := hid (by
            have h1 := HL0.out
            have h2 := (readyLen_bd G).2
            have h3 : (Y.last.length : Int) = 9 * (bankN G + 1) := hq1
            omega)
          have HA4 : Hid (n1 ≤ 4) := hid (by
            have h1 := HL1.out
            have h3 : Y.acts.length ≤ 4 := hq2
            omega)
          clear hq1 hq2
          obtain ⟨_, e0, e1, e2, e3, e4⟩ := HE.out
          obtain ⟨_, g0, g1, g2, g3⟩ := HG.out
          go_wp2_with fail
          clear e0 e1 e2 e3 e4 g0 g1 g2 g3
          refine (l10Do_any g7 W.heap.size g7 G ⟨⟨a0, n0, c0⟩, ⟨a1, n1, c1⟩, Y.last, Y.acts⟩ ⟨vt, ⟨kk, kb, kr, kc⟩⟩ _ HV.out HO.out (.inr (Nat.le_refl _)) HBK.out HRL.out HA4.out).mono ?_
          rintro e w7 ⟨rfl, ⟨⟨a0', n0', c0'⟩, ⟨a1', n1', c1'⟩, la', ac'⟩, D, V7, R7, K7⟩
          have HV7 := hid V7
          have HR7 := hid R7
          have HD7 := hid D
          have HT := hid (HT.out.keeps K7 (fun hS => by
            rcases hS with hS | hS
            · have := HLO.out; omega
            · have := HO.out.in_ hS; have := HLO.out; omega))
          have HB := hid (HB.out.trans (K7.below HB.out.size (fun q hq hS => by
            rcases hS with hS | hS
            · have := HLO.out; omega
            · have := HO.out.in_ hS; have := HLO.out; omega)))
          have HLN7 := hid (show g7 ≤ w7.heap.size by have h1 := HV7.out.lt; omega)
          have hsm : (⟨⟨a0', n0', c0'⟩, ⟨a1', n1', c1'⟩, la', ac'⟩ : RdyE).small := by
            obtain ⟨h1, h2⟩ := doY_len G Y.d ⟨vt, ⟨kk, kb, kr, kc⟩⟩
            have h3 : la'.length = (doY G Y.d ⟨vt, ⟨kk, kb, kr, kc⟩⟩).last.length := congrArg (fun d => d.last.length) D
            have h4 : ac'.length = (doY G Y.d ⟨vt, ⟨kk, kb, kr, kc⟩⟩).acts.length := congrArg (fun d => d.acts.length) D
            have h5 : Y.d.last.length ≤ 1048576 := HSM.out.1
            have h6 : Y.d.acts.length ≤ 1048576 := HSM.out.2
            exact ⟨by show la'.length ≤ _; omega, by show ac'.length ≤ _; omega⟩
          have HSM7 := hid hsm
          clear D V7 R7 K7 hsm
          have z0 : w7.cell? ⟨g7, 0, none⟩ = some (.slice a0' n0' c0') := HV7.out.cell (j := 0) rfl
          have z1 : w7.cell? ⟨g7, 1, none⟩ = some (.slice a1' n1' c1') := HV7.out.cell (j := 1) rfl
          go_wp2_with fail
          clear z0 z1
          refine (l10Copy_any ⟨⟨a0', n0', c0'⟩, ⟨a1', n1', c1'⟩, la', ac'⟩ _ HR7.out HSM7.out).mono ?_
          rintro e w8 ⟨⟨⟨b0, m0, x0⟩, ⟨b1, m1, x1⟩, lb, ab⟩, rfl, O8, D8, B8, _, _⟩
          have HO8 := hid O8
          have HD8 := hid (D8.trans (HD7.out.trans HGO.out.symm))
          have HT := hid (HT.out.old B8)
          have HB := hid (below_step HB.out B8 (Nat.le_refl _))
          clear O8 D8 B8 HO HOF HV HV7
          have d0 := HT.out.cell (j := 0) rfl
          have d1 := HT.out.cell (j := 1) rfl
          have f0 := HT.out.frozen 0
          have f1 := HT.out.frozen 1
          have HKK := hid (stored2 w8 (w.heap.size + 3) (.slice b0 m0 x0) (.slice b1 m1 x1))
          go_wp2_with fail
          refine bodyPost_ret (v := .agg #[.slice b0 m0 x0, .slice b1 m1 x1]) (by simp [results, Try.results26, go_sem, d0, d1]) rfl ⟨⟨⟨b0, m0, x0⟩, ⟨b1, m1, x1⟩, lb, ab⟩, rfl, ?_, HD8.out, ?_⟩
          · exact OwnY.up (OwnY.mono (OwnY.keeps HO8.out HKK.out (fun b h1 h2 h3 => by have := HLO.out; have := HLN7.out; omega)) (by have := HLO.out; have := HLN7.out; omega)) HKK.out.size (Nat.le_refl _)
          · exact HB.out.trans (HKK.out.below HB.out.size (fun k hk hS => by omega))
        | true =>
          by_cases hn : 0 < n1
          · have hni : (0 : Int) < (n1 : Int) := by omega
            have hni2 : decide ((0 : Int) < (n1 : Int)) = true := by simpa using hni
            obtain ⟨m, hm⟩ : ∃ m, n1 = m + 1 := ⟨n1 - 1, by omega⟩
            obtain ⟨x, hx⟩ := some_at (xs := Y.acts) HL1.out (show m < n1 by omega)
            have HG1 := hid (getD_of hx)
            obtain ⟨b1, o1, ha1, hb1, hc1⟩ := HX.out.acts m x hx
            have hy1 : Y.s1.n = n1 := by rw [HL1.out]; exact HN1.out
            clear hx
            have HLT : Hid (lateY Y.d ⟨vt, ⟨kk, kb, kr, kc⟩⟩ = decide (vt ≤ x)) := hid (by
              have h1 : Y.d.acts.length = n1 := HL1.out.symm
              have h2 : (n1 - 1) = m := by omega
              unfold lateY
              dsimp only
              rw [hk1, h1, h2]
              rw [show Y.d.acts.getD m 0 = x from HG1.out]
              simp [hn])
            have hnb : n1 ≤ 1048576 := by have h1 := HSM.out.2; have h2 := HL1.out; omega
            have s1 : IntKind.i64.wrap ((n1 : Int) - 1) = (m : Int) := by rw [IntWalk.i64_in _ (by omega)]; omega
            have hm0 : (0 : Int) ≤ (m : Int) := by omega
            have hm1 : (m : Int) < (n1 : Int) := by omega
            clear hm
            cases hle : decide (vt ≤ x) with
            | true =>
              have HLT := hid (HLT.out.trans hle)
              have hle2 : vt ≤ x := by simpa using hle
              have HNO := hid (goY_late (G := G) HLT.out)
              obtain ⟨hle, e0, e1, e2, e3, e4⟩ := HE.out
              obtain ⟨hly, y0, y1⟩ := HK.out
              have hov := over_cell w5
              rw [ha1, hy1] at y1
              refine wp_region_over (by kernel_rfl) (by kernel_rfl) ?_
              repeat (go_big_quiet_step (fail))
              refine wpQuiet_nil ?_
              intro w6 B
              have HT := hid (HT.out.old B)
              have HB := hid (below_step HB.out B (Nat.le_refl _))
              have HO := hid (HO.out.old B)
              have HOF := hid (OwnF.old HOF.out B)
              have HV := hid (HV.out.old B)
              have HE := hid (HE.out.old B)
              have HG := hid (HG.out.old B)
              have HK := hid (HK.out.old B)
              have HX := hid (HX.out.old B)
              clear B hov e0 e1 e2 e3 e4 y0 y1 hle hly
              have z0 : w6.cell? ⟨g7, 0, none⟩ = some (.slice a0 n0 c0) := HV.out.cell (j := 0) rfl
              have z1 : w6.cell? ⟨g7, 1, none⟩ = some (.slice a1 n1 c1) := HV.out.cell (j := 1) rfl
              have d0 := HT.out.cell (j := 0) rfl
              have d1 := HT.out.cell (j := 1) rfl
              have f0 := HT.out.frozen 0
              have f1 := HT.out.frozen 1
              have HKK := hid (stored2 w6 (w.heap.size + 3) (.slice a0 n0 c0) (.slice a1 n1 c1))
              go_wp2_with fail
              refine bodyPost_ret (v := .agg #[.slice a0 n0 c0, .slice a1 n1 c1]) (by simp [results, Try.results26, go_sem, d0, d1]) rfl ⟨⟨⟨a0, n0, c0⟩, ⟨a1, n1, c1⟩, Y.last, Y.acts⟩, rfl, ?_, (readyAfter_no HNO.out).symm, ?_⟩
              · exact OwnY.up (OwnY.mono (OwnY.keeps HO.out HKK.out (fun b h1 h2 h3 => by have := HLO.out; omega)) (by have := HLO.out; omega)) (Nat.le_trans HO.out.le HKK.out.size) (Nat.le_refl _)
              · exact HB.out.trans (HKK.out.below HB.out.size (fun k hk hS => by omega))
            | false =>
              have HLT := hid (HLT.out.trans hle)
              have hle2 : ¬ vt ≤ x := by simpa using hle
              have HGO := hid (readyAfter_yes (goY_yes (V := ⟨vt, ⟨kk, kb, kr, kc⟩⟩) HRK.out HCK.out HTK.out (HLT.out)))
              obtain ⟨hle, e0, e1, e2, e3, e4⟩ := HE.out
              obtain ⟨hly, y0, y1⟩ := HK.out
              have hov := over_cell w5
              rw [ha1, hy1] at y1
              refine wp_region_over (by kernel_rfl) (by kernel_rfl) ?_
              repeat (go_big_quiet_step (fail))
              refine wpQuiet_nil ?_
              intro w6 B
              have HT := hid (HT.out.old B)
              have HB := hid (below_step HB.out B (Nat.le_refl _))
              have HO := hid (HO.out.old B)
              have HOF := hid (OwnF.old HOF.out B)
              have HV := hid (HV.out.old B)
              have HE := hid (HE.out.old B)
              have HG := hid (HG.out.old B)
              have HK := hid (HK.out.old B)
              have HX := hid (HX.out.old B)
              clear B hov e0 e1 e2 e3 e4 y0 y1 hle hly
              have HBK := hid (bkOk_of HCK.out)
              obtain ⟨_, hq1, hq2⟩ := readyOk_parts HRK.out
              have HRL : Hid (n0 = readyLen G) := hid (by
                have h1 := HL0.out
                have h2 := (readyLen_bd G).2
                have h3 : (Y.last.length : Int) = 9 * (bankN G + 1) := hq1
                omega)
              have HA4 : Hid (n1 ≤ 4) := hid (by
                have h1 := HL1.out
                have h3 : Y.acts.length ≤ 4 := hq2
                omega)
              clear hq1 hq2
              obtain ⟨_, e0, e1, e2, e3, e4⟩ := HE.out
              obtain ⟨_, g0, g1, g2, g3⟩ := HG.out
              go_wp2_with fail
              clear e0 e1 e2 e3 e4 g0 g1 g2 g3
              refine (l10Do_any g7 W.heap.size g7 G ⟨⟨a0, n0, c0⟩, ⟨a1, n1, c1⟩, Y.last, Y.acts⟩ ⟨vt, ⟨kk, kb, kr, kc⟩⟩ _ HV.out HO.out (.inr (Nat.le_refl _)) HBK.out HRL.out HA4.out).mono ?_
              rintro e w7 ⟨rfl, ⟨⟨a0', n0', c0'⟩, ⟨a1', n1', c1'⟩, la', ac'⟩, D, V7, R7, K7⟩
              have HV7 := hid V7
              have HR7 := hid R7
              have HD7 := hid D
              have HT := hid (HT.out.keeps K7 (fun hS => by
                rcases hS with hS | hS
                · have := HLO.out; omega
                · have := HO.out.in_ hS; have := HLO.out; omega))
              have HB := hid (HB.out.trans (K7.below HB.out.size (fun q hq hS => by
                rcases hS with hS | hS
                · have := HLO.out; omega
                · have := HO.out.in_ hS; have := HLO.out; omega)))
              have HLN7 := hid (show g7 ≤ w7.heap.size by have h1 := HV7.out.lt; omega)
              have hsm : (⟨⟨a0', n0', c0'⟩, ⟨a1', n1', c1'⟩, la', ac'⟩ : RdyE).small := by
                obtain ⟨h1, h2⟩ := doY_len G Y.d ⟨vt, ⟨kk, kb, kr, kc⟩⟩
                have h3 : la'.length = (doY G Y.d ⟨vt, ⟨kk, kb, kr, kc⟩⟩).last.length := congrArg (fun d => d.last.length) D
                have h4 : ac'.length = (doY G Y.d ⟨vt, ⟨kk, kb, kr, kc⟩⟩).acts.length := congrArg (fun d => d.acts.length) D
                have h5 : Y.d.last.length ≤ 1048576 := HSM.out.1
                have h6 : Y.d.acts.length ≤ 1048576 := HSM.out.2
                exact ⟨by show la'.length ≤ _; omega, by show ac'.length ≤ _; omega⟩
              have HSM7 := hid hsm
              clear D V7 R7 K7 hsm
              have z0 : w7.cell? ⟨g7, 0, none⟩ = some (.slice a0' n0' c0') := HV7.out.cell (j := 0) rfl
              have z1 : w7.cell? ⟨g7, 1, none⟩ = some (.slice a1' n1' c1') := HV7.out.cell (j := 1) rfl
              go_wp2_with fail
              clear z0 z1
              refine (l10Copy_any ⟨⟨a0', n0', c0'⟩, ⟨a1', n1', c1'⟩, la', ac'⟩ _ HR7.out HSM7.out).mono ?_
              rintro e w8 ⟨⟨⟨b0, m0, x0⟩, ⟨b1, m1, x1⟩, lb, ab⟩, rfl, O8, D8, B8, _, _⟩
              have HO8 := hid O8
              have HD8 := hid (D8.trans (HD7.out.trans HGO.out.symm))
              have HT := hid (HT.out.old B8)
              have HB := hid (below_step HB.out B8 (Nat.le_refl _))
              clear O8 D8 B8 HO HOF HV HV7
              have d0 := HT.out.cell (j := 0) rfl
              have d1 := HT.out.cell (j := 1) rfl
              have f0 := HT.out.frozen 0
              have f1 := HT.out.frozen 1
              have HKK := hid (stored2 w8 (w.heap.size + 3) (.slice b0 m0 x0) (.slice b1 m1 x1))
              go_wp2_with fail
              refine bodyPost_ret (v := .agg #[.slice b0 m0 x0, .slice b1 m1 x1]) (by simp [results, Try.results26, go_sem, d0, d1]) rfl ⟨⟨⟨b0, m0, x0⟩, ⟨b1, m1, x1⟩, lb, ab⟩, rfl, ?_, HD8.out, ?_⟩
              · exact OwnY.up (OwnY.mono (OwnY.keeps HO8.out HKK.out (fun b h1 h2 h3 => by have := HLO.out; have := HLN7.out; omega)) (by have := HLO.out; have := HLN7.out; omega)) HKK.out.size (Nat.le_refl _)
              · exact HB.out.trans (HKK.out.below HB.out.size (fun k hk hS => by omega))
          · have hni : ¬ (0 : Int) < (n1 : Int) := by omega
            have hni2 : decide ((0 : Int) < (n1 : Int)) = false := by simpa using hni
            have hy1 : Y.s1.n = n1 := by rw [HL1.out]; exact HN1.out
            have HGO := hid (readyAfter_yes (goY_yes (V := ⟨vt, ⟨kk, kb, kr, kc⟩⟩) HRK.out HCK.out HTK.out (by unfold lateY; dsimp only; rw [show Y.d.acts.length = n1 from HL1.out.symm]; simp; omega)))
            obtain ⟨hle, e0, e1, e2, e3, e4⟩ := HE.out
            obtain ⟨hly, y0, y1⟩ := HK.out
            have hov := over_cell w5
            refine wp_region_over (by kernel_rfl) (by kernel_rfl) ?_
            repeat (go_big_quiet_step (fail))
            refine wpQuiet_nil ?_
            intro w6 B
            have HT := hid (HT.out.old B)
            have HB := hid (below_step HB.out B (Nat.le_refl _))
            have HO := hid (HO.out.old B)
            have HOF := hid (OwnF.old HOF.out B)
            have HV := hid (HV.out.old B)
            have HE := hid (HE.out.old B)
            have HG := hid (HG.out.old B)
            have HK := hid (HK.out.old B)
            have HX := hid (HX.out.old B)
            clear B hov e0 e1 e2 e3 e4 y0 y1 hle hly
            have HBK := hid (bkOk_of HCK.out)
            obtain ⟨_, hq1, hq2⟩ := readyOk_parts HRK.out
            have HRL : Hid (n0 = readyLen G) := hid (by
              have h1 := HL0.out
              have h2 := (readyLen_bd G).2
              have h3 : (Y.last.length : Int) = 9 * (bankN G + 1) := hq1
              omega)
            have HA4 : Hid (n1 ≤ 4) := hid (by
              have h1 := HL1.out
              have h3 : Y.acts.length ≤ 4 := hq2
              omega)
            clear hq1 hq2
            obtain ⟨_, e0, e1, e2, e3, e4⟩ := HE.out
            obtain ⟨_, g0, g1, g2, g3⟩ := HG.out
            go_wp2_with fail
            clear e0 e1 e2 e3 e4 g0 g1 g2 g3
            refine (l10Do_any g7 W.heap.size g7 G ⟨⟨a0, n0, c0⟩, ⟨a1, n1, c1⟩, Y.last, Y.acts⟩ ⟨vt, ⟨kk, kb, kr, kc⟩⟩ _ HV.out HO.out (.inr (Nat.le_refl _)) HBK.out HRL.out HA4.out).mono ?_
            rintro e w7 ⟨rfl, ⟨⟨a0', n0', c0'⟩, ⟨a1', n1', c1'⟩, la', ac'⟩, D, V7, R7, K7⟩
            have HV7 := hid V7
            have HR7 := hid R7
            have HD7 := hid D
            have HT := hid (HT.out.keeps K7 (fun hS => by
              rcases hS with hS | hS
              · have := HLO.out; omega
              · have := HO.out.in_ hS; have := HLO.out; omega))
            have HB := hid (HB.out.trans (K7.below HB.out.size (fun q hq hS => by
              rcases hS with hS | hS
              · have := HLO.out; omega
              · have := HO.out.in_ hS; have := HLO.out; omega)))
            have HLN7 := hid (show g7 ≤ w7.heap.size by have h1 := HV7.out.lt; omega)
            have hsm : (⟨⟨a0', n0', c0'⟩, ⟨a1', n1', c1'⟩, la', ac'⟩ : RdyE).small := by
              obtain ⟨h1, h2⟩ := doY_len G Y.d ⟨vt, ⟨kk, kb, kr, kc⟩⟩
              have h3 : la'.length = (doY G Y.d ⟨vt, ⟨kk, kb, kr, kc⟩⟩).last.length := congrArg (fun d => d.last.length) D
              have h4 : ac'.length = (doY G Y.d ⟨vt, ⟨kk, kb, kr, kc⟩⟩).acts.length := congrArg (fun d => d.acts.length) D
              have h5 : Y.d.last.length ≤ 1048576 := HSM.out.1
              have h6 : Y.d.acts.length ≤ 1048576 := HSM.out.2
              exact ⟨by show la'.length ≤ _; omega, by show ac'.length ≤ _; omega⟩
            have HSM7 := hid hsm
            clear D V7 R7 K7 hsm
            have z0 : w7.cell? ⟨g7, 0, none⟩ = some (.slice a0' n0' c0') := HV7.out.cell (j := 0) rfl
            have z1 : w7.cell? ⟨g7, 1, none⟩ = some (.slice a1' n1' c1') := HV7.out.cell (j := 1) rfl
            go_wp2_with fail
            clear z0 z1
            refine (l10Copy_any ⟨⟨a0', n0', c0'⟩, ⟨a1', n1', c1'⟩, la', ac'⟩ _ HR7.out HSM7.out).mono ?_
            rintro e w8 ⟨⟨⟨b0, m0, x0⟩, ⟨b1, m1, x1⟩, lb, ab⟩, rfl, O8, D8, B8, _, _⟩
            have HO8 := hid O8
            have HD8 := hid (D8.trans (HD7.out.trans HGO.out.symm))
            have HT := hid (HT.out.old B8)
            have HB := hid (below_step HB.out B8 (Nat.le_refl _))
            clear O8 D8 B8 HO HOF HV HV7
            have d0 := HT.out.cell (j := 0) rfl
            have d1 := HT.out.cell (j := 1) rfl
            have f0 := HT.out.frozen 0
            have f1 := HT.out.frozen 1
            have HKK := hid (stored2 w8 (w.heap.size + 3) (.slice b0 m0 x0) (.slice b1 m1 x1))
            go_wp2_with fail
            refine bodyPost_ret (v := .agg #[.slice b0 m0 x0, .slice b1 m1 x1]) (by simp [results, Try.results26, go_sem, d0, d1]) rfl ⟨⟨⟨b0, m0, x0⟩, ⟨b1, m1, x1⟩, lb, ab⟩, rfl, ?_, HD8.out, ?_⟩
            · exact OwnY.up (OwnY.mono (OwnY.keeps HO8.out HKK.out (fun b h1 h2 h3 => by have := HLO.out; have := HLN7.out; omega)) (by have := HLO.out; have := HLN7.out; omega)) HKK.out.size (Nat.le_refl _)
            · exact HB.out.trans (HKK.out.below HB.out.size (fun k hk hS => by omega))
end Go.Proofs.Ytggjheapjklhgaa
