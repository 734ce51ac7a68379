/- The reference's draw of a command. -/
import Derived.Test.YtggjheapjklhgaaDrwA
namespace Go.Proofs.Ytggjheapjklhgaa
open Go.RowKit
theorem cmdOk_drawn {G : Geo} (hgo : gOk G = true) {k : Int} (hk : 1 ≤ k ∧ k ≤ 9) {D : Adr} (hb : 0 ≤ D.b ∧ D.b < bankN G) (hr : 0 ≤ D.r ∧ D.r < G.r) (hc : 0 ≤ D.c ∧ D.c < G.c) {ub ur uc : Bool} (h1 : usesB k = ub) (h2 : usesR k = ur) (h3 : usesC k = uc) :
    cmdOk G ⟨k, if ub = true then D.b else 0, if ur = true then D.r else 0, if uc = true then D.c else 0⟩ = true := by
  unfold cmdOk
  rw [hgo, Bool.true_and, wellF_iff]
  subst h1 h2 h3
  refine ⟨hk, ⟨fun h => ?_, fun h => ?_⟩, ⟨fun h => ?_, fun h => ?_⟩, ⟨fun h => ?_, fun h => ?_⟩⟩ <;> (try replace h : _ = _ := h) <;> simp [h] <;> omega
theorem Keeps.hideGE {S : Nat → Prop} {w w1 w2 : World} (h : Keeps S w w1) (h2 : Keeps (fun b => w.heap.size ≤ b) w1 w2) : Keeps S w w2 :=
  ⟨h2.os.trans h.os, h2.tape.trans h.tape, h2.output.trans h.output, Nat.le_trans h.size h2.size, fun b hb hs => (h2.block b (Nat.lt_of_lt_of_le hb h.size) (fun e => by have : w.heap.size ≤ b := e; omega)).trans (h.block b hb hs)⟩
set_option maxHeartbeats 8000000 in
set_option maxRecDepth 100000 in
theorem l06Cmd_any (g n c : Nat) (a : Option Addr) (G : Geo) (w : World) (hc : Cur w g a n c) (hgo : gOk G = true) :
    Calls Try.prog 72 #[.pointer (some ⟨g, 0, none⟩), .agg #[.int .i64 G.a, .int .i64 G.b, .int .i64 G.r, .int .i64 G.c]] w fun e w' => ∃ C : Cmd, e = .returned (.agg #[.int .i64 C.k, .int .i64 C.b, .int .i64 C.r, .int .i64 C.c]) ∧ cmdOk G C = true ∧ Cur w' g a n c ∧ Keeps (· = g) w w' := by
  have HA := hid hc.reads.where_
  have HG := hid hc.lt
  have HC := hid hc
  have HGO := hid hgo
  have HXG := hid (BoxG.new_ w 25 G rfl)
  clear hc hgo
  go_enter Try.func72, Try.ntmps72
  go_upto_region 1 with (fail)
  refine wp_world (fun w1 hw => ?_)
  have HC := hid (show Cur w1 g a n c by rw [hw.out]; exact HC.out.old (below_alloc2 _ _ _))
  have HR := hid (show Blk w1 (w.heap.size + 1) 32 [.int .i64 0, .int .i64 0, .int .i64 0, .int .i64 0] by rw [hw.out]; simpa using Blk.new (w.alloc (.cells #[.int .i64 G.a, .int .i64 G.b, .int .i64 G.r, .int .i64 G.c] 25)) 32 [.int .i64 0, .int .i64 0, .int .i64 0, .int .i64 0])
  have HK := hid (show Keeps (· = g) w w1 by rw [hw.out]; exact Keeps.of_below (below_alloc2 _ _ _))
  have HXG := hid (show BoxG w1 w.heap.size G by rw [hw.out]; exact HXG.out.old (below_alloc _ _))
  have S1 := hid HR.out.lt
  clear hw
  go_wp2_with fail
  refine (l01Below_any _ _ _ _ _ _ HC.out (by omega)).mono ?_
  rintro e w2 ⟨r1, rfl, p1, q1, C, K⟩
  have q1 := q1 (by omega)
  have s1 : IntKind.i64.wrap (1 + r1) = 1 + r1 := IntWalk.i64_in _ (by omega)
  have HC := hid C
  have HR := hid (HR.out.keeps K (by have := HG.out; omega))
  have HXG := hid (HXG.out.keeps K (by have := HG.out; omega))
  have S2 := hid K.size
  have HK := hid (HK.out.trans K)
  clear C K
  go_upto_region 2 with (fail)
  refine wp_world (fun w3 hw => ?_)
  obtain ⟨k1, hk1⟩ : ∃ k1 : Int, 1 + r1 = k1 := ⟨_, rfl⟩
  rw [hk1] at hw
  have hk9 : 1 ≤ k1 ∧ k1 ≤ 9 := by omega
  have HX := hid (show Blk w3 w2.heap.size 32 [.int .i64 k1, .int .i64 0, .int .i64 0, .int .i64 0] by rw [hw.out]; exact Blk.new _ _ _)
  have B : Below w2.heap.size w2 w3 := by rw [hw.out]; exact below_alloc _ _
  have HC := hid (HC.out.old B)
  have HR := hid (HR.out.old B)
  have HXG := hid (HXG.out.old B)
  have HK := hid (HK.out.trans (Keeps.of_below B))
  have S3 := hid HX.out.lt
  clear hw B s1 hk1 p1 q1
  obtain ⟨_, g0, g1, g2, g3⟩ := HXG.out
  go_wp2_with fail
  clear g0 g1 g2 g3
  refine (l03Addr_any _ _ _ _ G _ HC.out HGO.out).mono ?_
  rintro e w4 ⟨D, rfl, b1, b2, b3, C, K⟩
  have HB1 := hid b1
  have HB2 := hid b2
  have HB3 := hid b3
  have HC := hid C
  have HR := hid (HR.out.keeps K (by have := HG.out; omega))
  have HX := hid (HX.out.keeps K (by have := HG.out; have := S1.out; have := S2.out; omega))
  have S4 := hid K.size
  have HK := hid (HK.out.trans K)
  clear C K b1 b2 b3
  go_upto_region 3 with (fail)
  refine wp_world (fun w5 hw => ?_)
  have HD := hid (show Blk w5 w4.heap.size 138 [.int .i64 D.b, .int .i64 D.r, .int .i64 D.c] by rw [hw.out]; exact Blk.new _ _ _)
  have B : Below w4.heap.size w4 w5 := by rw [hw.out]; exact below_alloc _ _
  have HC := hid (HC.out.old B)
  have HR := hid (HR.out.old B)
  have HX := hid (HX.out.old B)
  have HK := hid (HK.out.trans (Keeps.of_below B))
  clear hw B
  have n1 : ¬ w2.heap.size = w4.heap.size := by have := S3.out; have := S4.out; omega
  have n2 : ¬ w2.heap.size = w.heap.size + 1 := by have := S1.out; have := S2.out; omega
  have n3 : ¬ w4.heap.size = w.heap.size + 1 := by have := S1.out; have := S2.out; have := S3.out; have := S4.out; omega
  have n4 : w.heap.size ≤ w2.heap.size := by have := S1.out; have := S2.out; omega
  generalize w2.heap.size = p5 at *
  generalize w4.heap.size = p6 at *
  have n5 : w.heap.size ≤ w.heap.size + 1 := by omega
  have m1 := Ne.symm n1
  have m2 := Ne.symm n2
  have m3 := Ne.symm n3
  have x0 := HX.out.cell (j := 0) rfl
  go_wp2_with fail
  refine (l06Uses_any _ _).mono ?_
  rintro e w6 ⟨rfl, rfl⟩
  obtain ⟨ub, hub⟩ : ∃ ub, usesB k1 = ub := ⟨_, rfl⟩
  obtain ⟨ur, hur⟩ : ∃ ur, usesR k1 = ur := ⟨_, rfl⟩
  obtain ⟨uc, huc⟩ : ∃ uc, usesC k1 = uc := ⟨_, rfl⟩
  rw [hub, hur, huc]
  have HU := hid (cmdOk_drawn HGO.out hk9 HB1.out HB2.out HB3.out hub hur huc)
  clear hub hur huc
  have x1 := HX.out.cell (j := 1) rfl
  have x2 := HX.out.cell (j := 2) rfl
  have x3 := HX.out.cell (j := 3) rfl
  have y0 := HX.out.frozen 0
  have y1 := HX.out.frozen 1
  have y2 := HX.out.frozen 2
  have y3 := HX.out.frozen 3
  have d0 := HD.out.cell (j := 0) rfl
  have d1 := HD.out.cell (j := 1) rfl
  have d2 := HD.out.cell (j := 2) rfl
  have r0 := HR.out.cell (j := 0) rfl
  have r1 := HR.out.cell (j := 1) rfl
  have r2 := HR.out.cell (j := 2) rfl
  have r3 := HR.out.cell (j := 3) rfl
  have z0 := HR.out.frozen 0
  have z1 := HR.out.frozen 1
  have z2 := HR.out.frozen 2
  have z3 := HR.out.frozen 3
  cases ub <;> cases ur <;> cases uc
  · have HU2 : Hid (cmdOk G ⟨k1, 0, 0, 0⟩ = true) := hid (by have h := HU.out; simp only [if_false, Bool.false_eq_true] at h; exact h)
    clear HU
    go_upto_region 10 with (fail)
    refine wp_world (fun w7 hw => ?_)
    have HX7 := hid (show Blk w7 p5 32 [.int .i64 k1, .int .i64 0, .int .i64 0, .int .i64 0] by rw [hw.out]; exact HX.out)
    have HK7 := hid (show Keeps (fun q => q = p5) _ w7 by rw [hw.out]; exact Keeps.refl (fun q => q = p5) _)
    clear x0 x1 x2 x3 y0 y1 y2 y3 d0 d1 d2 r0 r1 r2 r3 z0 z1 z2 z3 hw
    have HR7 := hid (HR.out.keeps HK7.out (by omega))
    have HC7 := hid (HC.out.keeps HK7.out (by have := HG.out; omega) (fun b o ha h0 => by have := HA.out b o ha h0; omega))
    have HK8 := hid (HK.out.hide HK7.out n4)
    clear HR HC HK HK7 HX HD
    have x0 := HX7.out.cell (j := 0) rfl
    have x1 := HX7.out.cell (j := 1) rfl
    have x2 := HX7.out.cell (j := 2) rfl
    have x3 := HX7.out.cell (j := 3) rfl
    have r0 := HR7.out.cell (j := 0) rfl
    have r1 := HR7.out.cell (j := 1) rfl
    have r2 := HR7.out.cell (j := 2) rfl
    have r3 := HR7.out.cell (j := 3) rfl
    have z0 := HR7.out.frozen 0
    have z1 := HR7.out.frozen 1
    have z2 := HR7.out.frozen 2
    have z3 := HR7.out.frozen 3
    have HKS := hid (show Keeps (· = w.heap.size + 1) w7 ((((w7.setCell ⟨w.heap.size + 1, 0, none⟩ (.int .i64 k1)).setCell ⟨w.heap.size + 1, 1, none⟩ (.int .i64 0)).setCell ⟨w.heap.size + 1, 2, none⟩ (.int .i64 0)).setCell ⟨w.heap.size + 1, 3, none⟩ (.int .i64 0)) from ((((Keeps.refl (fun q => q = w.heap.size + 1) w7).set ⟨w.heap.size + 1, 0, none⟩ _ rfl).set ⟨w.heap.size + 1, 1, none⟩ _ rfl).set ⟨w.heap.size + 1, 2, none⟩ _ rfl).set ⟨w.heap.size + 1, 3, none⟩ _ rfl)
    go_wp2_with fail
    refine bodyPost_ret (v := .agg #[.int .i64 k1, .int .i64 0, .int .i64 0, .int .i64 0]) (by simp [results, Try.results72, go_sem, r0, r1, r2, r3]) rfl ⟨⟨k1, 0, 0, 0⟩, rfl, HU2.out, ?_, ?_⟩
    · exact HC7.out.keeps HKS.out (by have := HG.out; omega) (fun b o ha h0 => by have := HA.out b o ha h0; omega)
    · exact HK8.out.hide HKS.out n5
  · have HU2 : Hid (cmdOk G ⟨k1, 0, 0, D.c⟩ = true) := hid (by have h := HU.out; simp only [if_true, if_false, Bool.false_eq_true] at h; exact h)
    clear HU
    go_upto_region 10 with (fail)
    refine wp_world (fun w7 hw => ?_)
    have HX7 := hid (show Blk w7 p5 32 [.int .i64 k1, .int .i64 0, .int .i64 0, .int .i64 D.c] by rw [hw.out]; exact (HX.out.set 3 (.int .i64 D.c)).1)
    have HK7 := hid (show Keeps (fun q => q = p5) _ w7 by rw [hw.out]; exact (Keeps.refl (fun q => q = p5) _).set ⟨p5, 3, none⟩ _ rfl)
    clear x0 x1 x2 x3 y0 y1 y2 y3 d0 d1 d2 r0 r1 r2 r3 z0 z1 z2 z3 hw
    have HR7 := hid (HR.out.keeps HK7.out (by omega))
    have HC7 := hid (HC.out.keeps HK7.out (by have := HG.out; omega) (fun b o ha h0 => by have := HA.out b o ha h0; omega))
    have HK8 := hid (HK.out.hide HK7.out n4)
    clear HR HC HK HK7 HX HD
    have x0 := HX7.out.cell (j := 0) rfl
    have x1 := HX7.out.cell (j := 1) rfl
    have x2 := HX7.out.cell (j := 2) rfl
    have x3 := HX7.out.cell (j := 3) rfl
    have r0 := HR7.out.cell (j := 0) rfl
    have r1 := HR7.out.cell (j := 1) rfl
    have r2 := HR7.out.cell (j := 2) rfl
    have r3 := HR7.out.cell (j := 3) rfl
    have z0 := HR7.out.frozen 0
    have z1 := HR7.out.frozen 1
    have z2 := HR7.out.frozen 2
    have z3 := HR7.out.frozen 3
    have HKS := hid (show Keeps (· = w.heap.size + 1) w7 ((((w7.setCell ⟨w.heap.size + 1, 0, none⟩ (.int .i64 k1)).setCell ⟨w.heap.size + 1, 1, none⟩ (.int .i64 0)).setCell ⟨w.heap.size + 1, 2, none⟩ (.int .i64 0)).setCell ⟨w.heap.size + 1, 3, none⟩ (.int .i64 D.c)) from ((((Keeps.refl (fun q => q = w.heap.size + 1) w7).set ⟨w.heap.size + 1, 0, none⟩ _ rfl).set ⟨w.heap.size + 1, 1, none⟩ _ rfl).set ⟨w.heap.size + 1, 2, none⟩ _ rfl).set ⟨w.heap.size + 1, 3, none⟩ _ rfl)
    go_wp2_with fail
    refine bodyPost_ret (v := .agg #[.int .i64 k1, .int .i64 0, .int .i64 0, .int .i64 D.c]) (by simp [results, Try.results72, go_sem, r0, r1, r2, r3]) rfl ⟨⟨k1, 0, 0, D.c⟩, rfl, HU2.out, ?_, ?_⟩
    · exact HC7.out.keeps HKS.out (by have := HG.out; omega) (fun b o ha h0 => by have := HA.out b o ha h0; omega)
    · exact HK8.out.hide HKS.out n5
  · have HU2 : Hid (cmdOk G ⟨k1, 0, D.r, 0⟩ = true) := hid (by have h := HU.out; simp only [if_true, if_false, Bool.false_eq_true] at h; exact h)
    clear HU
    go_upto_region 10 with (fail)
    refine wp_world (fun w7 hw => ?_)
    have HX7 := hid (show Blk w7 p5 32 [.int .i64 k1, .int .i64 0, .int .i64 D.r, .int .i64 0] by rw [hw.out]; exact (HX.out.set 2 (.int .i64 D.r)).1)
    have HK7 := hid (show Keeps (fun q => q = p5) _ w7 by rw [hw.out]; exact (Keeps.refl (fun q => q = p5) _).set ⟨p5, 2, none⟩ _ rfl)
    clear x0 x1 x2 x3 y0 y1 y2 y3 d0 d1 d2 r0 r1 r2 r3 z0 z1 z2 z3 hw
    have HR7 := hid (HR.out.keeps HK7.out (by omega))
    have HC7 := hid (HC.out.keeps HK7.out (by have := HG.out; omega) (fun b o ha h0 => by have := HA.out b o ha h0; omega))
    have HK8 := hid (HK.out.hide HK7.out n4)
    clear HR HC HK HK7 HX HD
    have x0 := HX7.out.cell (j := 0) rfl
    have x1 := HX7.out.cell (j := 1) rfl
    have x2 := HX7.out.cell (j := 2) rfl
    have x3 := HX7.out.cell (j := 3) rfl
    have r0 := HR7.out.cell (j := 0) rfl
    have r1 := HR7.out.cell (j := 1) rfl
    have r2 := HR7.out.cell (j := 2) rfl
    have r3 := HR7.out.cell (j := 3) rfl
    have z0 := HR7.out.frozen 0
    have z1 := HR7.out.frozen 1
    have z2 := HR7.out.frozen 2
    have z3 := HR7.out.frozen 3
    have HKS := hid (show Keeps (· = w.heap.size + 1) w7 ((((w7.setCell ⟨w.heap.size + 1, 0, none⟩ (.int .i64 k1)).setCell ⟨w.heap.size + 1, 1, none⟩ (.int .i64 0)).setCell ⟨w.heap.size + 1, 2, none⟩ (.int .i64 D.r)).setCell ⟨w.heap.size + 1, 3, none⟩ (.int .i64 0)) from ((((Keeps.refl (fun q => q = w.heap.size + 1) w7).set ⟨w.heap.size + 1, 0, none⟩ _ rfl).set ⟨w.heap.size + 1, 1, none⟩ _ rfl).set ⟨w.heap.size + 1, 2, none⟩ _ rfl).set ⟨w.heap.size + 1, 3, none⟩ _ rfl)
    go_wp2_with fail
    refine bodyPost_ret (v := .agg #[.int .i64 k1, .int .i64 0, .int .i64 D.r, .int .i64 0]) (by simp [results, Try.results72, go_sem, r0, r1, r2, r3]) rfl ⟨⟨k1, 0, D.r, 0⟩, rfl, HU2.out, ?_, ?_⟩
    · exact HC7.out.keeps HKS.out (by have := HG.out; omega) (fun b o ha h0 => by have := HA.out b o ha h0; omega)
    · exact HK8.out.hide HKS.out n5
  · have HU2 : Hid (cmdOk G ⟨k1, 0, D.r, D.c⟩ = true) := hid (by have h := HU.out; simp only [if_true, if_false, Bool.false_eq_true] at h; exact h)
    clear HU
    go_upto_region 10 with (fail)
    refine wp_world (fun w7 hw => ?_)
    have HX7 := hid (show Blk w7 p5 32 [.int .i64 k1, .int .i64 0, .int .i64 D.r, .int .i64 D.c] by rw [hw.out]; exact ((HX.out.set 2 (.int .i64 D.r)).1.set 3 (.int .i64 D.c)).1)
    have HK7 := hid (show Keeps (fun q => q = p5) _ w7 by rw [hw.out]; exact ((Keeps.refl (fun q => q = p5) _).set ⟨p5, 2, none⟩ _ rfl).set ⟨p5, 3, none⟩ _ rfl)
    clear x0 x1 x2 x3 y0 y1 y2 y3 d0 d1 d2 r0 r1 r2 r3 z0 z1 z2 z3 hw
    have HR7 := hid (HR.out.keeps HK7.out (by omega))
    have HC7 := hid (HC.out.keeps HK7.out (by have := HG.out; omega) (fun b o ha h0 => by have := HA.out b o ha h0; omega))
    have HK8 := hid (HK.out.hide HK7.out n4)
    clear HR HC HK HK7 HX HD
    have x0 := HX7.out.cell (j := 0) rfl
    have x1 := HX7.out.cell (j := 1) rfl
    have x2 := HX7.out.cell (j := 2) rfl
    have x3 := HX7.out.cell (j := 3) rfl
    have r0 := HR7.out.cell (j := 0) rfl
    have r1 := HR7.out.cell (j := 1) rfl
    have r2 := HR7.out.cell (j := 2) rfl
    have r3 := HR7.out.cell (j := 3) rfl
    have z0 := HR7.out.frozen 0
    have z1 := HR7.out.frozen 1
    have z2 := HR7.out.frozen 2
    have z3 := HR7.out.frozen 3
    have HKS := hid (show Keeps (· = w.heap.size + 1) w7 ((((w7.setCell ⟨w.heap.size + 1, 0, none⟩ (.int .i64 k1)).setCell ⟨w.heap.size + 1, 1, none⟩ (.int .i64 0)).setCell ⟨w.heap.size + 1, 2, none⟩ (.int .i64 D.r)).setCell ⟨w.heap.size + 1, 3, none⟩ (.int .i64 D.c)) from ((((Keeps.refl (fun q => q = w.heap.size + 1) w7).set ⟨w.heap.size + 1, 0, none⟩ _ rfl).set ⟨w.heap.size + 1, 1, none⟩ _ rfl).set ⟨w.heap.size + 1, 2, none⟩ _ rfl).set ⟨w.heap.size + 1, 3, none⟩ _ rfl)
    go_wp2_with fail
    refine bodyPost_ret (v := .agg #[.int .i64 k1, .int .i64 0, .int .i64 D.r, .int .i64 D.c]) (by simp [results, Try.results72, go_sem, r0, r1, r2, r3]) rfl ⟨⟨k1, 0, D.r, D.c⟩, rfl, HU2.out, ?_, ?_⟩
    · exact HC7.out.keeps HKS.out (by have := HG.out; omega) (fun b o ha h0 => by have := HA.out b o ha h0; omega)
    · exact HK8.out.hide HKS.out n5
  · have HU2 : Hid (cmdOk G ⟨k1, D.b, 0, 0⟩ = true) := hid (by have h := HU.out; simp only [if_true, if_false, Bool.false_eq_true] at h; exact h)
    clear HU
    go_upto_region 10 with (fail)
    refine wp_world (fun w7 hw => ?_)
    have HX7 := hid (show Blk w7 p5 32 [.int .i64 k1, .int .i64 D.b, .int .i64 0, .int .i64 0] by rw [hw.out]; exact (HX.out.set 1 (.int .i64 D.b)).1)
    have HK7 := hid (show Keeps (fun q => q = p5) _ w7 by rw [hw.out]; exact (Keeps.refl (fun q => q = p5) _).set ⟨p5, 1, none⟩ _ rfl)
    clear x0 x1 x2 x3 y0 y1 y2 y3 d0 d1 d2 r0 r1 r2 r3 z0 z1 z2 z3 hw
    have HR7 := hid (HR.out.keeps HK7.out (by omega))
    have HC7 := hid (HC.out.keeps HK7.out (by have := HG.out; omega) (fun b o ha h0 => by have := HA.out b o ha h0; omega))
    have HK8 := hid (HK.out.hide HK7.out n4)
    clear HR HC HK HK7 HX HD
    have x0 := HX7.out.cell (j := 0) rfl
    have x1 := HX7.out.cell (j := 1) rfl
    have x2 := HX7.out.cell (j := 2) rfl
    have x3 := HX7.out.cell (j := 3) rfl
    have r0 := HR7.out.cell (j := 0) rfl
    have r1 := HR7.out.cell (j := 1) rfl
    have r2 := HR7.out.cell (j := 2) rfl
    have r3 := HR7.out.cell (j := 3) rfl
    have z0 := HR7.out.frozen 0
    have z1 := HR7.out.frozen 1
    have z2 := HR7.out.frozen 2
    have z3 := HR7.out.frozen 3
    have HKS := hid (show Keeps (· = w.heap.size + 1) w7 ((((w7.setCell ⟨w.heap.size + 1, 0, none⟩ (.int .i64 k1)).setCell ⟨w.heap.size + 1, 1, none⟩ (.int .i64 D.b)).setCell ⟨w.heap.size + 1, 2, none⟩ (.int .i64 0)).setCell ⟨w.heap.size + 1, 3, none⟩ (.int .i64 0)) from ((((Keeps.refl (fun q => q = w.heap.size + 1) w7).set ⟨w.heap.size + 1, 0, none⟩ _ rfl).set ⟨w.heap.size + 1, 1, none⟩ _ rfl).set ⟨w.heap.size + 1, 2, none⟩ _ rfl).set ⟨w.heap.size + 1, 3, none⟩ _ rfl)
    go_wp2_with fail
    refine bodyPost_ret (v := .agg #[.int .i64 k1, .int .i64 D.b, .int .i64 0, .int .i64 0]) (by simp [results, Try.results72, go_sem, r0, r1, r2, r3]) rfl ⟨⟨k1, D.b, 0, 0⟩, rfl, HU2.out, ?_, ?_⟩
    · exact HC7.out.keeps HKS.out (by have := HG.out; omega) (fun b o ha h0 => by have := HA.out b o ha h0; omega)
    · exact HK8.out.hide HKS.out n5
  · have HU2 : Hid (cmdOk G ⟨k1, D.b, 0, D.c⟩ = true) := hid (by have h := HU.out; simp only [if_true, if_false, Bool.false_eq_true] at h; exact h)
    clear HU
    go_upto_region 10 with (fail)
    refine wp_world (fun w7 hw => ?_)
    have HX7 := hid (show Blk w7 p5 32 [.int .i64 k1, .int .i64 D.b, .int .i64 0, .int .i64 D.c] by rw [hw.out]; exact ((HX.out.set 1 (.int .i64 D.b)).1.set 3 (.int .i64 D.c)).1)
    have HK7 := hid (show Keeps (fun q => q = p5) _ w7 by rw [hw.out]; exact ((Keeps.refl (fun q => q = p5) _).set ⟨p5, 1, none⟩ _ rfl).set ⟨p5, 3, none⟩ _ rfl)
    clear x0 x1 x2 x3 y0 y1 y2 y3 d0 d1 d2 r0 r1 r2 r3 z0 z1 z2 z3 hw
    have HR7 := hid (HR.out.keeps HK7.out (by omega))
    have HC7 := hid (HC.out.keeps HK7.out (by have := HG.out; omega) (fun b o ha h0 => by have := HA.out b o ha h0; omega))
    have HK8 := hid (HK.out.hide HK7.out n4)
    clear HR HC HK HK7 HX HD
    have x0 := HX7.out.cell (j := 0) rfl
    have x1 := HX7.out.cell (j := 1) rfl
    have x2 := HX7.out.cell (j := 2) rfl
    have x3 := HX7.out.cell (j := 3) rfl
    have r0 := HR7.out.cell (j := 0) rfl
    have r1 := HR7.out.cell (j := 1) rfl
    have r2 := HR7.out.cell (j := 2) rfl
    have r3 := HR7.out.cell (j := 3) rfl
    have z0 := HR7.out.frozen 0
    have z1 := HR7.out.frozen 1
    have z2 := HR7.out.frozen 2
    have z3 := HR7.out.frozen 3
    have HKS := hid (show Keeps (· = w.heap.size + 1) w7 ((((w7.setCell ⟨w.heap.size + 1, 0, none⟩ (.int .i64 k1)).setCell ⟨w.heap.size + 1, 1, none⟩ (.int .i64 D.b)).setCell ⟨w.heap.size + 1, 2, none⟩ (.int .i64 0)).setCell ⟨w.heap.size + 1, 3, none⟩ (.int .i64 D.c)) from ((((Keeps.refl (fun q => q = w.heap.size + 1) w7).set ⟨w.heap.size + 1, 0, none⟩ _ rfl).set ⟨w.heap.size + 1, 1, none⟩ _ rfl).set ⟨w.heap.size + 1, 2, none⟩ _ rfl).set ⟨w.heap.size + 1, 3, none⟩ _ rfl)
    go_wp2_with fail
    refine bodyPost_ret (v := .agg #[.int .i64 k1, .int .i64 D.b, .int .i64 0, .int .i64 D.c]) (by simp [results, Try.results72, go_sem, r0, r1, r2, r3]) rfl ⟨⟨k1, D.b, 0, D.c⟩, rfl, HU2.out, ?_, ?_⟩
    · exact HC7.out.keeps HKS.out (by have := HG.out; omega) (fun b o ha h0 => by have := HA.out b o ha h0; omega)
    · exact HK8.out.hide HKS.out n5
  · have HU2 : Hid (cmdOk G ⟨k1, D.b, D.r, 0⟩ = true) := hid (by have h := HU.out; simp only [if_true, if_false, Bool.false_eq_true] at h; exact h)
    clear HU
    go_upto_region 10 with (fail)
    refine wp_world (fun w7 hw => ?_)
    have HX7 := hid (show Blk w7 p5 32 [.int .i64 k1, .int .i64 D.b, .int .i64 D.r, .int .i64 0] by rw [hw.out]; exact ((HX.out.set 1 (.int .i64 D.b)).1.set 2 (.int .i64 D.r)).1)
    have HK7 := hid (show Keeps (fun q => q = p5) _ w7 by rw [hw.out]; exact ((Keeps.refl (fun q => q = p5) _).set ⟨p5, 1, none⟩ _ rfl).set ⟨p5, 2, none⟩ _ rfl)
    clear x0 x1 x2 x3 y0 y1 y2 y3 d0 d1 d2 r0 r1 r2 r3 z0 z1 z2 z3 hw
    have HR7 := hid (HR.out.keeps HK7.out (by omega))
    have HC7 := hid (HC.out.keeps HK7.out (by have := HG.out; omega) (fun b o ha h0 => by have := HA.out b o ha h0; omega))
    have HK8 := hid (HK.out.hide HK7.out n4)
    clear HR HC HK HK7 HX HD
    have x0 := HX7.out.cell (j := 0) rfl
    have x1 := HX7.out.cell (j := 1) rfl
    have x2 := HX7.out.cell (j := 2) rfl
    have x3 := HX7.out.cell (j := 3) rfl
    have r0 := HR7.out.cell (j := 0) rfl
    have r1 := HR7.out.cell (j := 1) rfl
    have r2 := HR7.out.cell (j := 2) rfl
    have r3 := HR7.out.cell (j := 3) rfl
    have z0 := HR7.out.frozen 0
    have z1 := HR7.out.frozen 1
    have z2 := HR7.out.frozen 2
    have z3 := HR7.out.frozen 3
    have HKS := hid (show Keeps (· = w.heap.size + 1) w7 ((((w7.setCell ⟨w.heap.size + 1, 0, none⟩ (.int .i64 k1)).setCell ⟨w.heap.size + 1, 1, none⟩ (.int .i64 D.b)).setCell ⟨w.heap.size + 1, 2, none⟩ (.int .i64 D.r)).setCell ⟨w.heap.size + 1, 3, none⟩ (.int .i64 0)) from ((((Keeps.refl (fun q => q = w.heap.size + 1) w7).set ⟨w.heap.size + 1, 0, none⟩ _ rfl).set ⟨w.heap.size + 1, 1, none⟩ _ rfl).set ⟨w.heap.size + 1, 2, none⟩ _ rfl).set ⟨w.heap.size + 1, 3, none⟩ _ rfl)
    go_wp2_with fail
    refine bodyPost_ret (v := .agg #[.int .i64 k1, .int .i64 D.b, .int .i64 D.r, .int .i64 0]) (by simp [results, Try.results72, go_sem, r0, r1, r2, r3]) rfl ⟨⟨k1, D.b, D.r, 0⟩, rfl, HU2.out, ?_, ?_⟩
    · exact HC7.out.keeps HKS.out (by have := HG.out; omega) (fun b o ha h0 => by have := HA.out b o ha h0; omega)
    · exact HK8.out.hide HKS.out n5
  · have HU2 : Hid (cmdOk G ⟨k1, D.b, D.r, D.c⟩ = true) := hid (by have h := HU.out; simp only [if_true] at h; exact h)
    clear HU
    go_upto_region 10 with (fail)
    refine wp_world (fun w7 hw => ?_)
    have HX7 := hid (show Blk w7 p5 32 [.int .i64 k1, .int .i64 D.b, .int .i64 D.r, .int .i64 D.c] by rw [hw.out]; exact (((HX.out.set 1 (.int .i64 D.b)).1.set 2 (.int .i64 D.r)).1.set 3 (.int .i64 D.c)).1)
    have HK7 := hid (show Keeps (fun q => q = p5) _ w7 by rw [hw.out]; exact (((Keeps.refl (fun q => q = p5) _).set ⟨p5, 1, none⟩ _ rfl).set ⟨p5, 2, none⟩ _ rfl).set ⟨p5, 3, none⟩ _ rfl)
    clear x0 x1 x2 x3 y0 y1 y2 y3 d0 d1 d2 r0 r1 r2 r3 z0 z1 z2 z3 hw
    have HR7 := hid (HR.out.keeps HK7.out (by omega))
    have HC7 := hid (HC.out.keeps HK7.out (by have := HG.out; omega) (fun b o ha h0 => by have := HA.out b o ha h0; omega))
    have HK8 := hid (HK.out.hide HK7.out n4)
    clear HR HC HK HK7 HX HD
    have x0 := HX7.out.cell (j := 0) rfl
    have x1 := HX7.out.cell (j := 1) rfl
    have x2 := HX7.out.cell (j := 2) rfl
    have x3 := HX7.out.cell (j := 3) rfl
    have r0 := HR7.out.cell (j := 0) rfl
    have r1 := HR7.out.cell (j := 1) rfl
    have r2 := HR7.out.cell (j := 2) rfl
    have r3 := HR7.out.cell (j := 3) rfl
    have z0 := HR7.out.frozen 0
    have z1 := HR7.out.frozen 1
    have z2 := HR7.out.frozen 2
    have z3 := HR7.out.frozen 3
    have HKS := hid (show Keeps (· = w.heap.size + 1) w7 ((((w7.setCell ⟨w.heap.size + 1, 0, none⟩ (.int .i64 k1)).setCell ⟨w.heap.size + 1, 1, none⟩ (.int .i64 D.b)).setCell ⟨w.heap.size + 1, 2, none⟩ (.int .i64 D.r)).setCell ⟨w.heap.size + 1, 3, none⟩ (.int .i64 D.c)) from ((((Keeps.refl (fun q => q = w.heap.size + 1) w7).set ⟨w.heap.size + 1, 0, none⟩ _ rfl).set ⟨w.heap.size + 1, 1, none⟩ _ rfl).set ⟨w.heap.size + 1, 2, none⟩ _ rfl).set ⟨w.heap.size + 1, 3, none⟩ _ rfl)
    go_wp2_with fail
    refine bodyPost_ret (v := .agg #[.int .i64 k1, .int .i64 D.b, .int .i64 D.r, .int .i64 D.c]) (by simp [results, Try.results72, go_sem, r0, r1, r2, r3]) rfl ⟨⟨k1, D.b, D.r, D.c⟩, rfl, HU2.out, ?_, ?_⟩
    · exact HC7.out.keeps HKS.out (by have := HG.out; omega) (fun b o ha h0 => by have := HA.out b o ha h0; omega)
    · exact HK8.out.hide HKS.out n5
end Go.Proofs.Ytggjheapjklhgaa
