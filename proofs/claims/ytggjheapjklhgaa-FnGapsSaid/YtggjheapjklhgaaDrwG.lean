/- The reference's draws of a geometry and of an address. -/
import Derived.Test.YtggjheapjklhgaaDraw
import Derived.Test.YtggjheapjklhgaaGeoW
import Derived.Test.YtggjheapjklhgaaInv
import Derived.Deep.Cut
namespace Go.Proofs.Ytggjheapjklhgaa
open Go.RowKit
theorem Keeps.hide {S : Nat → Prop} {w w1 w2 : World} {r : Nat} (h : Keeps S w w1) (h2 : Keeps (· = r) w1 w2) (hr : w.heap.size ≤ r) : Keeps S w w2 :=
  ⟨h2.os.trans h.os, h2.tape.trans h.tape, h2.output.trans h.output, Nat.le_trans h.size h2.size, fun b hb hs => (h2.block b (Nat.lt_of_lt_of_le hb h.size) (fun e => by have : b = r := e; omega)).trans (h.block b hb hs)⟩
set_option maxRecDepth 100000 in
theorem l03Geo_any (g n c : Nat) (a : Option Addr) (w : World) (hc : Cur w g a n c) :
    Calls Try.prog 71 #[.pointer (some ⟨g, 0, none⟩)] w fun e w' => ∃ G : Geo, e = .returned (.agg #[.int .i64 G.a, .int .i64 G.b, .int .i64 G.r, .int .i64 G.c]) ∧ gOk G = true ∧ Cur w' g a n c ∧ Keeps (· = g) w w' := by
  have HA := hid hc.reads.where_
  have HG := hid hc.lt
  have HC := hid hc
  clear hc
  go_enter Try.func71, Try.ntmps71
  go_upto_region 1 with (fail)
  refine wp_world (fun w1 hw => ?_)
  have HC := hid (show Cur w1 g a n c by rw [hw.out]; exact HC.out.old (below_alloc _ _))
  have HV := hid (show Blk w1 w.heap.size 25 [.int .i64 0, .int .i64 0, .int .i64 0, .int .i64 0] by rw [hw.out]; exact Blk.new _ _ _)
  have HK := hid (show Keeps (· = g) w w1 by rw [hw.out]; exact Keeps.of_below (below_alloc _ _))
  have HS := hid (show w.heap.size < w1.heap.size from HV.out.lt)
  clear hw
  go_wp2_with fail
  refine (l01Below_any _ _ _ _ _ _ HC.out (by omega)).mono ?_
  rintro e w2 ⟨r1, rfl, p1, q1, C, K⟩
  have q1 := q1 (by omega)
  have s1 : IntKind.i64.wrap (1 + r1) = 1 + r1 := IntWalk.i64_in _ (by omega)
  have HC := hid C
  have HV := hid (HV.out.keeps K (by have := HG.out; omega))
  have HK := hid (HK.out.trans K)
  clear C K
  go_wp2_with fail
  refine (l01Below_any _ _ _ _ _ _ HC.out (by omega)).mono ?_
  rintro e w3 ⟨r2, rfl, p2, q2, C, K⟩
  have q2 := q2 (by omega)
  have s2 : IntKind.i64.wrap (1 + r2) = 1 + r2 := IntWalk.i64_in _ (by omega)
  have HC := hid C
  have HV := hid (HV.out.keeps K (by have := HG.out; omega))
  have HK := hid (HK.out.trans K)
  clear C K
  go_wp2_with fail
  refine (l01Below_any _ _ _ _ _ _ HC.out (by omega)).mono ?_
  rintro e w4 ⟨r3, rfl, p3, q3, C, K⟩
  have q3 := q3 (by omega)
  have s3 : IntKind.i64.wrap (2 + r3) = 2 + r3 := IntWalk.i64_in _ (by omega)
  have HC := hid C
  have HV := hid (HV.out.keeps K (by have := HG.out; omega))
  have HK := hid (HK.out.trans K)
  clear C K
  go_wp2_with fail
  refine (l01Below_any _ _ _ _ _ _ HC.out (by omega)).mono ?_
  rintro e w5 ⟨r4, rfl, p4, q4, C, K⟩
  have q4 := q4 (by omega)
  have s4 : IntKind.i64.wrap (1 + r4) = 1 + r4 := IntWalk.i64_in _ (by omega)
  have HC := hid C
  have HV := hid (HV.out.keeps K (by have := HG.out; omega))
  have HK := hid (HK.out.trans K)
  clear C K
  have v0 := HV.out.cell (j := 0) rfl
  have v1 := HV.out.cell (j := 1) rfl
  have v2 := HV.out.cell (j := 2) rfl
  have v3 := HV.out.cell (j := 3) rfl
  have f0 := HV.out.frozen 0
  have f1 := HV.out.frozen 1
  have f2 := HV.out.frozen 2
  have f3 := HV.out.frozen 3
  have HL := hid HV.out.lt
  have KS : Keeps (· = w.heap.size) w5 ((((w5.setCell ⟨w.heap.size, 0, none⟩ (.int .i64 (1 + r1))).setCell ⟨w.heap.size, 1, none⟩ (.int .i64 (1 + r2))).setCell ⟨w.heap.size, 2, none⟩ (.int .i64 (2 + r3))).setCell ⟨w.heap.size, 3, none⟩ (.int .i64 (1 + r4))) :=
    ((((Keeps.refl (fun b => b = w.heap.size) w5).set ⟨w.heap.size, 0, none⟩ _ rfl).set ⟨w.heap.size, 1, none⟩ _ rfl).set ⟨w.heap.size, 2, none⟩ _ rfl).set ⟨w.heap.size, 3, none⟩ _ rfl
  have HKS := hid KS
  clear KS
  go_wp2_with fail
  refine bodyPost_ret (v := .agg #[.int .i64 (1 + r1), .int .i64 (1 + r2), .int .i64 (2 + r3), .int .i64 (1 + r4)]) (by simp [results, Try.results71, go_sem, v0, v1, v2, v3]) rfl ⟨⟨1 + r1, 1 + r2, 2 + r3, 1 + r4⟩, rfl, ?_, ?_, ?_⟩
  · rw [gOk_iff]; exact ⟨by show 1 ≤ 1 + r1 ∧ 1 + r1 ≤ 2; omega, by show 1 ≤ 1 + r2 ∧ 1 + r2 ≤ 4; omega, by show 2 ≤ 2 + r3 ∧ 2 + r3 ≤ 16; omega, by show 1 ≤ 1 + r4 ∧ 1 + r4 ≤ 8; omega⟩
  · exact HC.out.keeps HKS.out (by have := HG.out; omega) (fun b o ha h0 => by have := HA.out b o ha h0; omega)
  · exact HK.out.hide HKS.out (Nat.le_refl _)
end Go.Proofs.Ytggjheapjklhgaa
