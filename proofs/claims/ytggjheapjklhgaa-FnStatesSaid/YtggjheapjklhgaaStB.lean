/- The reference's draws of a state and of a command that need not be valid. -/
import Derived.Test.YtggjheapjklhgaaDrwG
import Derived.Test.YtggjheapjklhgaaRkD
import Derived.Test.YtggjheapjklhgaaLwR
namespace Go.Proofs.Ytggjheapjklhgaa
open Go.RowKit
/-- Memory while a state is drawn. -/
structure RnS (w : World) (g : Nat) (a : Option Addr) (n c : Nat) (G : Geo) (p3 g6 : Nat) (R : RankE) (v : World) : Prop where
  cur : Cur v g a n c
  rk : Blk v g6 41 (RkB R)
  own : OwnR v p3 g6 R
  geo : BoxG v w.heap.size G
  res : Blk v (w.heap.size + 1) 41 [.slice none 0 0, .int .i64 0]
  keep : Keeps (fun b => b = g) w v
  hg : g < w.heap.size
  h3 : w.heap.size + 2 ≤ p3
  h6 : p3 ≤ g6
  wh : ∀ b o, a = some ⟨b, o, none⟩ → 0 < n → b < w.heap.size
section
variable {w : World} {g : Nat} {a : Option Addr} {n c : Nat} {G : Geo} {p3 g6 : Nat} {R : RankE} {v v' : World}
theorem RnS.keeps (h : RnS w g a n c G p3 g6 R v) (hc : Cur v' g a n c) (hk : Keeps (fun b => b = g) v v') : RnS w g a n c G p3 g6 R v' := by
  have := h.hg; have := h.h3; have := h.h6
  exact ⟨hc, h.rk.keeps hk (by omega), h.own.keeps hk (fun b hb _ e => by omega), h.geo.keeps hk (by omega), h.res.keeps hk (by omega), h.keep.trans hk, h.hg, h.h3, h.h6, h.wh⟩
theorem RnS.old (h : RnS w g a n c G p3 g6 R v) (hb : Below v.heap.size v v') : RnS w g a n c G p3 g6 R v' := h.keeps (h.cur.old hb) (Keeps.of_below hb)
theorem RnS.did (h : RnS w g a n c G p3 g6 R v) {R' : RankE} (hb : Blk v' g6 41 (RkB R')) (hO : OwnR v' p3 g6 R') (hk : Keeps (fun b => b = g6 ∨ blkR R b) v v') : RnS w g a n c G p3 g6 R' v' := by
  have e1 := h.hg; have e2 := h.h3; have e3 := h.h6
  have lo : ∀ b, (b = g6 ∨ blkR R b) → p3 ≤ b := fun b hb => hb.elim (fun e => by omega) fun e => (h.own.in_ e).1
  have hi : ∀ b, b < p3 → ¬ (b = g6 ∨ blkR R b) := fun b hb hs => by have := lo b hs; omega
  exact ⟨h.cur.keeps hk (hi _ (by omega)) (fun b o ha h0 => hi _ (by have := h.wh b o ha h0; omega)), hb, hO, h.geo.keeps hk (hi _ (by omega)), h.res.keeps hk (hi _ (by omega)), h.keep.hideGE (hk.mono fun b _ hs => by have := lo b hs; omega), h.hg, h.h3, h.h6, h.wh⟩
end
set_option maxHeartbeats 8000000 in
set_option maxRecDepth 100000 in
theorem l08Rank_any (g n c : Nat) (a : Option Addr) (G : Geo) (w : World) (hc : Cur w g a n c) (hgo : gOk G = true) :
    Calls Try.prog 148 #[.pointer (some ⟨g, 0, none⟩), .agg #[.int .i64 G.a, .int .i64 G.b, .int .i64 G.r, .int .i64 G.c]] w fun e w' => ∃ R : RankE, e = .returned (.agg #[.slice R.a R.n R.c, .int .i64 R.p]) ∧ OwnR w' w.heap.size w'.heap.size R ∧ rankOk G R.d = true ∧ Cur w' g a n c ∧ Keeps (· = g) w w' := by
  have HG := hid hc.lt
  have HWH := hid hc.reads.where_
  have HC := hid hc
  have HGO := hid hgo
  clear hc hgo
  have HXG0 := hid ((BoxG.new_ w 25 G rfl).old (below_alloc _ (.cells #[.slice none 0 0, .int .i64 0] 41)))
  go_enter Try.func148, Try.ntmps148
  go_upto_region 1 with (fail)
  refine wp_world (fun w1 hw => ?_)
  have HXG : Hid (BoxG w1 w.heap.size G) := by rw [hw.out]; exact HXG0
  have HU : Hid (Blk w1 (w.heap.size + 1) 41 [.slice none 0 0, .int .i64 0]) := by rw [hw.out]; exact hid (by simpa using Blk.new (w.alloc (.cells #[.int .i64 G.a, .int .i64 G.b, .int .i64 G.r, .int .i64 G.c] 25)) 41 [.slice none 0 0, .int .i64 0])
  have HB1 : Hid (Below w.heap.size w w1) := by rw [hw.out]; exact hid (below_alloc2 _ _ _)
  have HS1 : Hid (w1.heap.size = w.heap.size + 2) := by rw [hw.out]; exact hid (by simp)
  clear hw HXG0
  obtain ⟨_, g0, g1, g2, g3⟩ := HXG.out
  go_wp2_with fail
  clear g0 g1 g2 g3
  refine (specRankNew_any G _).mono ?_
  rintro e w3 ⟨⟨na, nn, nc, ns, np⟩, rfl, O, D, B⟩
  have HO := hid O
  have HD := hid D
  have HXG := hid (HXG.out.old B)
  have HU := hid (HU.out.old B)
  have HB3 := hid (below_step HB1.out B (Nat.le_refl _))
  have HS3 := hid B.size
  have HS2 := hid (show w.heap.size + 2 ≤ w1.heap.size by have := HS1.out; omega)
  clear O D B HB1 HS1
  generalize w1.heap.size = p3 at *
  go_upto_region 2 with (fail)
  refine wp_world (fun w4 hw => ?_)
  have HV : Hid (Blk w4 w3.heap.size 41 [.slice na nn nc, .int .i64 np]) := by rw [hw.out]; exact hid (Blk.new _ _ _)
  have B : Below w3.heap.size w3 w4 := by rw [hw.out]; exact below_alloc _ _
  have HSS : Hid (RnS w g a n c G p3 w3.heap.size ⟨na, nn, nc, ns, np⟩ w4) := hid
    ⟨HC.out.old (below_step HB3.out B (Nat.le_refl _)), HV.out, OwnR.old HO.out B, HXG.out.old B, HU.out.old B, Keeps.of_below (below_step HB3.out B (Nat.le_refl _)), HG.out, HS2.out, HS3.out, HWH.out⟩
  clear hw HXG HO HV B HB3 HC HS3 HU
  generalize w3.heap.size = g6 at *
  go_upto_region 3 with (fail)
  go_loopw [6] (fun i wr => ∃ (k : Nat) (R : RankE), k ≤ 12 ∧ i = .int .i64 k ∧ Hid (RnS w g a n c G p3 g6 R wr) ∧ Hid (rankOk G R.d = true)) (fun i _ => 12 - (intOf i).toNat)
  case atStart => exact ⟨0, ⟨na, nn, nc, ns, np⟩, Nat.zero_le _, rfl, HSS, hid (by rw [HD.out]; exact rankNew_ok HGO.out)⟩
  case round =>
    clear HSS HD
    obtain ⟨k, ⟨ra, rn, rc, rs, rp⟩, hk, rfl, HS, HT⟩ := hrel
    have HRN : Hid (rn = rs.length) := hid (OwnF.length encB_len (by decide) HS.out.own)
    have HRS : Hid (rn ≤ 1048576) := hid (by have h1 := (rankOk_iff.1 HT.out).2.1; have h2 := bankN_bd G; have h3 := HRN.out; have h4 : ((RankE.d ⟨ra, rn, rc, rs, rp⟩).banks.length : Int) = bankN G := h1; have h5 : (RankE.d ⟨ra, rn, rc, rs, rp⟩).banks.length = rs.length := rfl; omega)
    go_wp2_with fail
    refine (l01Below_any _ _ _ _ _ _ HS.out.cur (by omega)).mono ?_
    rintro e w5 ⟨r, rfl, r0, r1, Cu, K⟩
    have r1 := r1 (by omega)
    have HS := hid (HS.out.keeps Cu K)
    clear Cu K
    by_cases hlk : (k : Int) < r
    · have hk12 : k < 12 := by omega
      clear r0 r1
      obtain ⟨_, g0, g1, g2, g3⟩ := HS.out.geo
      go_wp2_with fail
      clear g0 g1 g2 g3
      refine (l06Cmd_any _ _ _ _ G _ HS.out.cur HGO.out).mono ?_
      rintro e w6 ⟨C, rfl, hco, Cu, K⟩
      have HCO := hid hco
      have HS := hid (HS.out.keeps Cu K)
      have HLT := hid HS.out.rk.lt
      clear hco Cu K
      go_upto_region 6 with (fail)
      refine wp_world (fun w7 hw => ?_)
      have HX := hid (show Blk w7 w6.heap.size 32 [.int .i64 C.k, .int .i64 C.b, .int .i64 C.r, .int .i64 C.c] by rw [hw.out]; exact Blk.new _ _ _)
      have B : Below w6.heap.size w6 w7 := by rw [hw.out]; exact below_alloc _ _
      have HS := hid (HS.out.old B)
      clear hw B
      generalize w6.heap.size = p7 at *
      have HIN : Hid (inR rn C) := hid (inR_of (R := ⟨ra, rn, rc, rs, rp⟩) HRN.out HT.out HCO.out)
      have v0 := HS.out.rk.cell (j := 0) (v := .slice ra rn rc) rfl
      have v1 := HS.out.rk.cell (j := 1) (v := .int .i64 rp) rfl
      have x0 := HX.out.cell (j := 0) rfl
      have x1 := HX.out.cell (j := 1) rfl
      have x2 := HX.out.cell (j := 2) rfl
      have x3 := HX.out.cell (j := 3) rfl
      go_wp2_with fail
      clear x0 x1 x2 x3 v0 v1
      refine (l08May_any ⟨ra, rn, rc, rs, rp⟩ C _ HS.out.own.reads HRS.out HIN.out).mono ?_
      rintro e w8 ⟨rfl, B⟩
      have HS := hid (HS.out.old B)
      have HX := hid (HX.out.old B)
      clear B
      cases hm : may (RankE.d ⟨ra, rn, rc, rs, rp⟩) C with
      | false =>
        clear hm
        go_wp2_with fail
        go_roundw
        case rel => exact ⟨k + 1, ⟨ra, rn, rc, rs, rp⟩, by omega, by go_num, HS, HT⟩
        case measure => simp [intOf]; omega
      | true =>
        have HM := hid hm
        clear hm
        have x0 := HX.out.cell (j := 0) rfl
        have x1 := HX.out.cell (j := 1) rfl
        have x2 := HX.out.cell (j := 2) rfl
        have x3 := HX.out.cell (j := 3) rfl
        go_wp2_with fail
        clear x0 x1 x2 x3
        refine (l08Do_any g6 p3 g6 ⟨ra, rn, rc, rs, rp⟩ C _ HS.out.rk HS.out.own HIN.out (.inr (Nat.le_refl _)) HRS.out).mono ?_
        rintro e w9 ⟨rfl, R', eq1, eq2, eq3, eq4, hb9, hO9, K⟩
        have HS9 := hid (HS.out.did hb9 hO9 K)
        have HT9 := hid (show rankOk G R'.d = true by rw [eq4]; exact doR_ok HT.out HCO.out HM.out)
        clear eq1 eq2 eq3 eq4 hb9 hO9 K HS HT HM
        go_wp2_with fail
        go_roundw
        case rel => exact ⟨k + 1, R', by omega, by go_num, HS9, HT9⟩
        case measure => simp [intOf]; omega
    · have v0 := HS.out.rk.cell (j := 0) (v := .slice ra rn rc) rfl
      have v1 := HS.out.rk.cell (j := 1) (v := .int .i64 rp) rfl
      have d0 := HS.out.res.cell (j := 0) rfl
      have d1 := HS.out.res.cell (j := 1) rfl
      have f0 := HS.out.res.frozen 0
      have f1 := HS.out.res.frozen 1
      have HKK := hid (stored2 w5 (w.heap.size + 1) (.slice ra rn rc) (.int .i64 rp))
      go_wp2_with fail
      refine bodyPost_ret (v := .agg #[.slice ra rn rc, .int .i64 rp]) (by simp [results, Try.results148, go_sem, d0, d1]) rfl ⟨⟨ra, rn, rc, rs, rp⟩, rfl, ?_, HT.out, ?_, ?_⟩
      · have h3 := HS.out.h3; have h6 := HS.out.h6
        exact OwnF.up (OwnF.mono (OwnF.keeps HS.out.own HKK.out (fun b h1 h2 e => by omega)) (by omega)) (Nat.le_trans HS.out.own.le HKK.out.size) (Nat.le_refl _)
      · exact HS.out.cur.keeps HKK.out (by have := HS.out.hg; omega) (fun b o ha h0 => by have := HS.out.wh b o ha h0; omega)
      · exact HS.out.keep.hide HKK.out (by omega)
def fitG (G : Geo) : Geo := if gOk G = true then G else ⟨1, 2, 2, 1⟩
theorem fitG_ok (G : Geo) : gOk (fitG G) = true := by
  unfold fitG
  split
  · assumption
  · decide
set_option maxRecDepth 100000 in
theorem l03Fit_any (G : Geo) (w : World) :
    Calls Try.prog 134 #[.agg #[.int .i64 G.a, .int .i64 G.b, .int .i64 G.r, .int .i64 G.c]] w fun e w' => ∃ H : Geo, e = .returned (.agg #[.int .i64 H.a, .int .i64 H.b, .int .i64 H.r, .int .i64 H.c]) ∧ gOk H = true ∧ Below w.heap.size w w' := by
  have HXG0 := hid ((BoxG.new_ w 25 G rfl).old (below_alloc _ (.cells #[.int .i64 0, .int .i64 0, .int .i64 0, .int .i64 0] 25)))
  go_enter Try.func134, Try.ntmps134
  go_upto_region 1 with (fail)
  refine wp_world (fun w1 hw => ?_)
  have HXG : Hid (BoxG w1 w.heap.size G) := by rw [hw.out]; exact HXG0
  have HU : Hid (Blk w1 (w.heap.size + 1) 25 [.int .i64 0, .int .i64 0, .int .i64 0, .int .i64 0]) := by rw [hw.out]; exact hid (by simpa using Blk.new (w.alloc (.cells #[.int .i64 G.a, .int .i64 G.b, .int .i64 G.r, .int .i64 G.c] 25)) 25 [.int .i64 0, .int .i64 0, .int .i64 0, .int .i64 0])
  have HB : Hid (Below w.heap.size w w1) := by rw [hw.out]; exact hid (below_alloc2 _ _ _)
  clear hw HXG0
  obtain ⟨_, g0, g1, g2, g3⟩ := HXG.out
  go_wp2_with fail
  clear g0 g1 g2 g3
  refine (specGeometryOk_any G _).mono ?_
  rintro e w2 ⟨rfl, B⟩
  have HXG := hid (HXG.out.old B)
  have HU := hid (HU.out.old B)
  have HB := hid (below_step HB.out B (Nat.le_refl _))
  clear B
  have v0 := HU.out.cell (j := 0) rfl
  have v1 := HU.out.cell (j := 1) rfl
  have v2 := HU.out.cell (j := 2) rfl
  have v3 := HU.out.cell (j := 3) rfl
  have f0 := HU.out.frozen 0
  have f1 := HU.out.frozen 1
  have f2 := HU.out.frozen 2
  have f3 := HU.out.frozen 3
  have kp : ∀ x y z q : Value, Below w.heap.size w ((((w2.setCell ⟨w.heap.size + 1, 0, none⟩ x).setCell ⟨w.heap.size + 1, 1, none⟩ y).setCell ⟨w.heap.size + 1, 2, none⟩ z).setCell ⟨w.heap.size + 1, 3, none⟩ q) := fun x y z q =>
    HB.out.trans (((((((Keeps.refl (fun b => b = w.heap.size + 1) w2).set ⟨w.heap.size + 1, 0, none⟩ x rfl).set ⟨w.heap.size + 1, 1, none⟩ y rfl).set ⟨w.heap.size + 1, 2, none⟩ z rfl).set ⟨w.heap.size + 1, 3, none⟩ q rfl)).below (B := w.heap.size) HB.out.size (fun k hk e => by omega))
  have HKP := hid kp
  clear kp
  cases hg : gOk G with
  | false =>
    clear hg
    go_wp2_with fail
    exact bodyPost_ret (v := .agg #[.int .i64 1, .int .i64 2, .int .i64 2, .int .i64 1]) (by simp [results, Try.results134, go_sem, v0, v1, v2, v3]) rfl ⟨⟨1, 2, 2, 1⟩, rfl, by decide, HKP.out _ _ _ _⟩
  | true =>
    have HGO := hid hg
    clear hg
    obtain ⟨_, g0, g1, g2, g3⟩ := HXG.out
    go_wp2_with fail
    exact bodyPost_ret (v := .agg #[.int .i64 G.a, .int .i64 G.b, .int .i64 G.r, .int .i64 G.c]) (by simp [results, Try.results134, go_sem, v0, v1, v2, v3]) rfl ⟨G, rfl, HGO.out, HKP.out _ _ _ _⟩
set_option maxHeartbeats 8000000 in
set_option maxRecDepth 100000 in
theorem l06Any_any (g n c : Nat) (a : Option Addr) (G : Geo) (w : World) (hc : Cur w g a n c) (hgo : gOk G = true) :
    Calls Try.prog 133 #[.pointer (some ⟨g, 0, none⟩), .agg #[.int .i64 G.a, .int .i64 G.b, .int .i64 G.r, .int .i64 G.c]] w fun e w' => ∃ C : Cmd, e = .returned (.agg #[.int .i64 C.k, .int .i64 C.b, .int .i64 C.r, .int .i64 C.c]) ∧ Cur w' g a n c ∧ Keeps (· = g) w w' := by
  have HG := hid hc.lt
  have HWH := hid hc.reads.where_
  have HC := hid hc
  have HGO := hid hgo
  clear hc hgo
  have HXG0 := hid ((BoxG.new_ w 25 G rfl).old (below_alloc _ (.cells #[.int .i64 0, .int .i64 0, .int .i64 0, .int .i64 0] 32)))
  go_enter Try.func133, Try.ntmps133
  go_upto_region 1 with (fail)
  refine wp_world (fun w1 hw => ?_)
  have HXG : Hid (BoxG w1 w.heap.size G) := by rw [hw.out]; exact HXG0
  have HU : Hid (Blk w1 (w.heap.size + 1) 32 [.int .i64 0, .int .i64 0, .int .i64 0, .int .i64 0]) := by rw [hw.out]; exact hid (by simpa using Blk.new (w.alloc (.cells #[.int .i64 G.a, .int .i64 G.b, .int .i64 G.r, .int .i64 G.c] 25)) 32 [.int .i64 0, .int .i64 0, .int .i64 0, .int .i64 0])
  have HC : Hid (Cur w1 g a n c) := by rw [hw.out]; exact hid (HC.out.old (below_alloc2 _ _ _))
  have HK : Hid (Keeps (fun b => b = g) w w1) := by rw [hw.out]; exact hid (Keeps.of_below (below_alloc2 _ _ _))
  clear hw HXG0
  obtain ⟨_, g0, g1, g2, g3⟩ := HXG.out
  go_wp2_with fail
  clear g0 g1 g2 g3
  refine (l06Cmd_any _ _ _ _ G _ HC.out HGO.out).mono ?_
  rintro e w2 ⟨C, rfl, _, Cu, K⟩
  have HC := hid Cu
  have HU := hid (HU.out.keeps K (by have := HG.out; omega))
  have HK := hid (HK.out.trans K)
  have HL2 := hid HU.out.lt
  clear Cu K HXG
  go_upto_region 2 with (fail)
  refine wp_world (fun w3 hw => ?_)
  have HX := hid (show Blk w3 w2.heap.size 32 [.int .i64 C.k, .int .i64 C.b, .int .i64 C.r, .int .i64 C.c] by rw [hw.out]; exact Blk.new _ _ _)
  have B : Below w2.heap.size w2 w3 := by rw [hw.out]; exact below_alloc _ _
  have HC := hid (HC.out.old B)
  have HU := hid (HU.out.old B)
  have HK := hid (HK.out.trans (Keeps.of_below B))
  clear hw B
  generalize w2.heap.size = p5 at *
  go_wp2_with fail
  refine (l01Below_any _ _ _ _ _ _ HC.out (by omega)).mono ?_
  rintro e w4 ⟨r, rfl, r0, r1, Cu, K⟩
  have HC := hid Cu
  have HU := hid (HU.out.keeps K (by have := HG.out; omega))
  have HX := hid (HX.out.keeps K (by have h1 := HG.out; have h2 := HL2.out; omega))
  have HK := hid (HK.out.trans K)
  clear Cu K r0 r1
  by_cases e0 : r = 0
  · have t0 : (r == 0) = true := by simp [e0]
    clear e0
    go_wp2_with fail
    have RR := irow_lit w4 [0, 10, (-1), 4, 6]
    have b2 := (Below.refl w4.heap.size w4).alloc (Nat.le_refl _) (.cells ([0, 10, (-1), 4, 6].map (Value.int .i64)).toArray 3)
    refine (l01PickInt_any _ _ _ _ _ _ _ [0, 10, (-1), 4, 6] _ (HC.out.old b2) RR.reads rfl (by decide) (by decide) (by rintro k o e; simp at e; have := HG.out; have := HK.out.size; omega)).mono ?_
    rintro e w6 ⟨y, hy, rfl, Cu, K⟩
    have HC := hid Cu
    have HU := hid ((HU.out.old b2).keeps K (by have := HG.out; omega))
    have HX := hid ((HX.out.old b2).keeps K (by have h1 := HG.out; have h2 := HL2.out; omega))
    have HK := hid ((HK.out.trans (Keeps.of_below b2)).trans K)
    clear Cu K hy RR b2
    have x := HX.out.cell (j := 0) rfl
    have f := HX.out.frozen 0
    go_upto_region 11 with (fail)
    refine wp_world (fun w7 hw => ?_)
    have K := (HX.out.set 0 (.int .i64 y)).2
    have HX := hid (show Blk w7 p5 32 [.int .i64 y, .int .i64 C.b, .int .i64 C.r, .int .i64 C.c] by rw [hw.out]; exact (HX.out.set 0 (.int .i64 y)).1)
    rw [← hw.out] at K
    have HC := hid (HC.out.keeps K (by have h1 := HG.out; have h2 := HL2.out; omega) (fun b o ha h0 => by have := HWH.out b o ha h0; have h2 := HL2.out; omega))
    have HU := hid (HU.out.keeps K (by have h2 := HL2.out; omega))
    have HK := hid (HK.out.hide K (by have h2 := HL2.out; omega))
    clear hw K x f
    have x0 := HX.out.cell (j := 0) rfl
    have x1 := HX.out.cell (j := 1) rfl
    have x2 := HX.out.cell (j := 2) rfl
    have x3 := HX.out.cell (j := 3) rfl
    have v0 := HU.out.cell (j := 0) rfl
    have f0 := HU.out.frozen 0
    have v1 := HU.out.cell (j := 1) rfl
    have f1 := HU.out.frozen 1
    have v2 := HU.out.cell (j := 2) rfl
    have f2 := HU.out.frozen 2
    have v3 := HU.out.cell (j := 3) rfl
    have f3 := HU.out.frozen 3
    have HKS := hid (show Keeps (fun q => q = w.heap.size + 1) w7 ((((w7.setCell ⟨w.heap.size + 1, 0, none⟩ (.int .i64 y)).setCell ⟨w.heap.size + 1, 1, none⟩ (.int .i64 C.b)).setCell ⟨w.heap.size + 1, 2, none⟩ (.int .i64 C.r)).setCell ⟨w.heap.size + 1, 3, none⟩ (.int .i64 C.c)) from ((((Keeps.refl (fun q => q = w.heap.size + 1) w7).set ⟨w.heap.size + 1, 0, none⟩ _ rfl).set ⟨w.heap.size + 1, 1, none⟩ _ rfl).set ⟨w.heap.size + 1, 2, none⟩ _ rfl).set ⟨w.heap.size + 1, 3, none⟩ _ rfl)
    go_wp2_with fail
    refine bodyPost_ret (v := .agg #[.int .i64 y, .int .i64 C.b, .int .i64 C.r, .int .i64 C.c]) (by simp [results, Try.results133, go_sem, v0, v1, v2, v3]) rfl ⟨⟨y, C.b, C.r, C.c⟩, rfl, ?_, ?_⟩
    · exact HC.out.keeps HKS.out (by have := HG.out; omega) (fun b o ha h0 => by have := HWH.out b o ha h0; omega)
    · exact HK.out.hide HKS.out (by omega)
  have t0 : (r == 0) = false := by simp [e0]
  clear e0
  by_cases e1 : r = 1
  · have t1 : (r == 1) = true := by simp [e1]
    clear e1
    go_wp2_with fail
    have RR := irow_lit w4 [(-1), 7, 8]
    have b2 := (Below.refl w4.heap.size w4).alloc (Nat.le_refl _) (.cells ([(-1), 7, 8].map (Value.int .i64)).toArray 3)
    refine (l01PickInt_any _ _ _ _ _ _ _ [(-1), 7, 8] _ (HC.out.old b2) RR.reads rfl (by decide) (by decide) (by rintro k o e; simp at e; have := HG.out; have := HK.out.size; omega)).mono ?_
    rintro e w6 ⟨y, hy, rfl, Cu, K⟩
    have HC := hid Cu
    have HU := hid ((HU.out.old b2).keeps K (by have := HG.out; omega))
    have HX := hid ((HX.out.old b2).keeps K (by have h1 := HG.out; have h2 := HL2.out; omega))
    have HK := hid ((HK.out.trans (Keeps.of_below b2)).trans K)
    clear Cu K hy RR b2
    have x := HX.out.cell (j := 1) rfl
    have f := HX.out.frozen 1
    go_upto_region 11 with (fail)
    refine wp_world (fun w7 hw => ?_)
    have K := (HX.out.set 1 (.int .i64 y)).2
    have HX := hid (show Blk w7 p5 32 [.int .i64 C.k, .int .i64 y, .int .i64 C.r, .int .i64 C.c] by rw [hw.out]; exact (HX.out.set 1 (.int .i64 y)).1)
    rw [← hw.out] at K
    have HC := hid (HC.out.keeps K (by have h1 := HG.out; have h2 := HL2.out; omega) (fun b o ha h0 => by have := HWH.out b o ha h0; have h2 := HL2.out; omega))
    have HU := hid (HU.out.keeps K (by have h2 := HL2.out; omega))
    have HK := hid (HK.out.hide K (by have h2 := HL2.out; omega))
    clear hw K x f
    have x0 := HX.out.cell (j := 0) rfl
    have x1 := HX.out.cell (j := 1) rfl
    have x2 := HX.out.cell (j := 2) rfl
    have x3 := HX.out.cell (j := 3) rfl
    have v0 := HU.out.cell (j := 0) rfl
    have f0 := HU.out.frozen 0
    have v1 := HU.out.cell (j := 1) rfl
    have f1 := HU.out.frozen 1
    have v2 := HU.out.cell (j := 2) rfl
    have f2 := HU.out.frozen 2
    have v3 := HU.out.cell (j := 3) rfl
    have f3 := HU.out.frozen 3
    have HKS := hid (show Keeps (fun q => q = w.heap.size + 1) w7 ((((w7.setCell ⟨w.heap.size + 1, 0, none⟩ (.int .i64 C.k)).setCell ⟨w.heap.size + 1, 1, none⟩ (.int .i64 y)).setCell ⟨w.heap.size + 1, 2, none⟩ (.int .i64 C.r)).setCell ⟨w.heap.size + 1, 3, none⟩ (.int .i64 C.c)) from ((((Keeps.refl (fun q => q = w.heap.size + 1) w7).set ⟨w.heap.size + 1, 0, none⟩ _ rfl).set ⟨w.heap.size + 1, 1, none⟩ _ rfl).set ⟨w.heap.size + 1, 2, none⟩ _ rfl).set ⟨w.heap.size + 1, 3, none⟩ _ rfl)
    go_wp2_with fail
    refine bodyPost_ret (v := .agg #[.int .i64 C.k, .int .i64 y, .int .i64 C.r, .int .i64 C.c]) (by simp [results, Try.results133, go_sem, v0, v1, v2, v3]) rfl ⟨⟨C.k, y, C.r, C.c⟩, rfl, ?_, ?_⟩
    · exact HC.out.keeps HKS.out (by have := HG.out; omega) (fun b o ha h0 => by have := HWH.out b o ha h0; omega)
    · exact HK.out.hide HKS.out (by omega)
  have t1 : (r == 1) = false := by simp [e1]
  clear e1
  by_cases e2 : r = 2
  · have t2 : (r == 2) = true := by simp [e2]
    clear e2
    go_wp2_with fail
    have RR := irow_lit w4 [(-1), 15, 16]
    have b2 := (Below.refl w4.heap.size w4).alloc (Nat.le_refl _) (.cells ([(-1), 15, 16].map (Value.int .i64)).toArray 3)
    refine (l01PickInt_any _ _ _ _ _ _ _ [(-1), 15, 16] _ (HC.out.old b2) RR.reads rfl (by decide) (by decide) (by rintro k o e; simp at e; have := HG.out; have := HK.out.size; omega)).mono ?_
    rintro e w6 ⟨y, hy, rfl, Cu, K⟩
    have HC := hid Cu
    have HU := hid ((HU.out.old b2).keeps K (by have := HG.out; omega))
    have HX := hid ((HX.out.old b2).keeps K (by have h1 := HG.out; have h2 := HL2.out; omega))
    have HK := hid ((HK.out.trans (Keeps.of_below b2)).trans K)
    clear Cu K hy RR b2
    have x := HX.out.cell (j := 2) rfl
    have f := HX.out.frozen 2
    go_upto_region 11 with (fail)
    refine wp_world (fun w7 hw => ?_)
    have K := (HX.out.set 2 (.int .i64 y)).2
    have HX := hid (show Blk w7 p5 32 [.int .i64 C.k, .int .i64 C.b, .int .i64 y, .int .i64 C.c] by rw [hw.out]; exact (HX.out.set 2 (.int .i64 y)).1)
    rw [← hw.out] at K
    have HC := hid (HC.out.keeps K (by have h1 := HG.out; have h2 := HL2.out; omega) (fun b o ha h0 => by have := HWH.out b o ha h0; have h2 := HL2.out; omega))
    have HU := hid (HU.out.keeps K (by have h2 := HL2.out; omega))
    have HK := hid (HK.out.hide K (by have h2 := HL2.out; omega))
    clear hw K x f
    have x0 := HX.out.cell (j := 0) rfl
    have x1 := HX.out.cell (j := 1) rfl
    have x2 := HX.out.cell (j := 2) rfl
    have x3 := HX.out.cell (j := 3) rfl
    have v0 := HU.out.cell (j := 0) rfl
    have f0 := HU.out.frozen 0
    have v1 := HU.out.cell (j := 1) rfl
    have f1 := HU.out.frozen 1
    have v2 := HU.out.cell (j := 2) rfl
    have f2 := HU.out.frozen 2
    have v3 := HU.out.cell (j := 3) rfl
    have f3 := HU.out.frozen 3
    have HKS := hid (show Keeps (fun q => q = w.heap.size + 1) w7 ((((w7.setCell ⟨w.heap.size + 1, 0, none⟩ (.int .i64 C.k)).setCell ⟨w.heap.size + 1, 1, none⟩ (.int .i64 C.b)).setCell ⟨w.heap.size + 1, 2, none⟩ (.int .i64 y)).setCell ⟨w.heap.size + 1, 3, none⟩ (.int .i64 C.c)) from ((((Keeps.refl (fun q => q = w.heap.size + 1) w7).set ⟨w.heap.size + 1, 0, none⟩ _ rfl).set ⟨w.heap.size + 1, 1, none⟩ _ rfl).set ⟨w.heap.size + 1, 2, none⟩ _ rfl).set ⟨w.heap.size + 1, 3, none⟩ _ rfl)
    go_wp2_with fail
    refine bodyPost_ret (v := .agg #[.int .i64 C.k, .int .i64 C.b, .int .i64 y, .int .i64 C.c]) (by simp [results, Try.results133, go_sem, v0, v1, v2, v3]) rfl ⟨⟨C.k, C.b, y, C.c⟩, rfl, ?_, ?_⟩
    · exact HC.out.keeps HKS.out (by have := HG.out; omega) (fun b o ha h0 => by have := HWH.out b o ha h0; omega)
    · exact HK.out.hide HKS.out (by omega)
  have t2 : (r == 2) = false := by simp [e2]
  clear e2
  by_cases e3 : r = 3
  · have t3 : (r == 3) = true := by simp [e3]
    clear e3
    go_wp2_with fail
    have RR := irow_lit w4 [(-1), 7, 8]
    have b2 := (Below.refl w4.heap.size w4).alloc (Nat.le_refl _) (.cells ([(-1), 7, 8].map (Value.int .i64)).toArray 3)
    refine (l01PickInt_any _ _ _ _ _ _ _ [(-1), 7, 8] _ (HC.out.old b2) RR.reads rfl (by decide) (by decide) (by rintro k o e; simp at e; have := HG.out; have := HK.out.size; omega)).mono ?_
    rintro e w6 ⟨y, hy, rfl, Cu, K⟩
    have HC := hid Cu
    have HU := hid ((HU.out.old b2).keeps K (by have := HG.out; omega))
    have HX := hid ((HX.out.old b2).keeps K (by have h1 := HG.out; have h2 := HL2.out; omega))
    have HK := hid ((HK.out.trans (Keeps.of_below b2)).trans K)
    clear Cu K hy RR b2
    have x := HX.out.cell (j := 3) rfl
    have f := HX.out.frozen 3
    go_upto_region 11 with (fail)
    refine wp_world (fun w7 hw => ?_)
    have K := (HX.out.set 3 (.int .i64 y)).2
    have HX := hid (show Blk w7 p5 32 [.int .i64 C.k, .int .i64 C.b, .int .i64 C.r, .int .i64 y] by rw [hw.out]; exact (HX.out.set 3 (.int .i64 y)).1)
    rw [← hw.out] at K
    have HC := hid (HC.out.keeps K (by have h1 := HG.out; have h2 := HL2.out; omega) (fun b o ha h0 => by have := HWH.out b o ha h0; have h2 := HL2.out; omega))
    have HU := hid (HU.out.keeps K (by have h2 := HL2.out; omega))
    have HK := hid (HK.out.hide K (by have h2 := HL2.out; omega))
    clear hw K x f
    have x0 := HX.out.cell (j := 0) rfl
    have x1 := HX.out.cell (j := 1) rfl
    have x2 := HX.out.cell (j := 2) rfl
    have x3 := HX.out.cell (j := 3) rfl
    have v0 := HU.out.cell (j := 0) rfl
    have f0 := HU.out.frozen 0
    have v1 := HU.out.cell (j := 1) rfl
    have f1 := HU.out.frozen 1
    have v2 := HU.out.cell (j := 2) rfl
    have f2 := HU.out.frozen 2
    have v3 := HU.out.cell (j := 3) rfl
    have f3 := HU.out.frozen 3
    have HKS := hid (show Keeps (fun q => q = w.heap.size + 1) w7 ((((w7.setCell ⟨w.heap.size + 1, 0, none⟩ (.int .i64 C.k)).setCell ⟨w.heap.size + 1, 1, none⟩ (.int .i64 C.b)).setCell ⟨w.heap.size + 1, 2, none⟩ (.int .i64 C.r)).setCell ⟨w.heap.size + 1, 3, none⟩ (.int .i64 y)) from ((((Keeps.refl (fun q => q = w.heap.size + 1) w7).set ⟨w.heap.size + 1, 0, none⟩ _ rfl).set ⟨w.heap.size + 1, 1, none⟩ _ rfl).set ⟨w.heap.size + 1, 2, none⟩ _ rfl).set ⟨w.heap.size + 1, 3, none⟩ _ rfl)
    go_wp2_with fail
    refine bodyPost_ret (v := .agg #[.int .i64 C.k, .int .i64 C.b, .int .i64 C.r, .int .i64 y]) (by simp [results, Try.results133, go_sem, v0, v1, v2, v3]) rfl ⟨⟨C.k, C.b, C.r, y⟩, rfl, ?_, ?_⟩
    · exact HC.out.keeps HKS.out (by have := HG.out; omega) (fun b o ha h0 => by have := HWH.out b o ha h0; omega)
    · exact HK.out.hide HKS.out (by omega)
  have t3 : (r == 3) = false := by simp [e3]
  clear e3
  have x0 := HX.out.cell (j := 0) rfl
  have x1 := HX.out.cell (j := 1) rfl
  have x2 := HX.out.cell (j := 2) rfl
  have x3 := HX.out.cell (j := 3) rfl
  have v0 := HU.out.cell (j := 0) rfl
  have f0 := HU.out.frozen 0
  have v1 := HU.out.cell (j := 1) rfl
  have f1 := HU.out.frozen 1
  have v2 := HU.out.cell (j := 2) rfl
  have f2 := HU.out.frozen 2
  have v3 := HU.out.cell (j := 3) rfl
  have f3 := HU.out.frozen 3
  have HKS := hid (show Keeps (fun q => q = w.heap.size + 1) w4 ((((w4.setCell ⟨w.heap.size + 1, 0, none⟩ (.int .i64 C.k)).setCell ⟨w.heap.size + 1, 1, none⟩ (.int .i64 C.b)).setCell ⟨w.heap.size + 1, 2, none⟩ (.int .i64 C.r)).setCell ⟨w.heap.size + 1, 3, none⟩ (.int .i64 C.c)) from ((((Keeps.refl (fun q => q = w.heap.size + 1) w4).set ⟨w.heap.size + 1, 0, none⟩ _ rfl).set ⟨w.heap.size + 1, 1, none⟩ _ rfl).set ⟨w.heap.size + 1, 2, none⟩ _ rfl).set ⟨w.heap.size + 1, 3, none⟩ _ rfl)
  go_wp2_with fail
  refine bodyPost_ret (v := .agg #[.int .i64 C.k, .int .i64 C.b, .int .i64 C.r, .int .i64 C.c]) (by simp [results, Try.results133, go_sem, v0, v1, v2, v3]) rfl ⟨⟨C.k, C.b, C.r, C.c⟩, rfl, ?_, ?_⟩
  · exact HC.out.keeps HKS.out (by have := HG.out; omega) (fun b o ha h0 => by have := HWH.out b o ha h0; omega)
  · exact HK.out.hide HKS.out (by omega)
end Go.Proofs.Ytggjheapjklhgaa
