/- The reference's change of a state by a command. -/
import Derived.Test.YtggjheapjklhgaaDoorRkC
import Derived.Test.YtggjheapjklhgaaDoorRkP
import Derived.StillTail
namespace Go.Proofs.YtggjheapjklhgaaDoor
open Go.RowKit
/-- The variable of a rank. -/
def RkB (R : RankE) : List Value := [.slice R.a R.n R.c, .int .i64 R.p]
set_option maxHeartbeats 4000000 in
set_option maxRecDepth 100000 in
theorem l08Do_any (g B U : Nat) (R : RankE) (C : Cmd) (w : World) (hv : Blk w g 75 (RkB R)) (hO : OwnR w B U R) (hC : inR R.n C) (hg : g < B ∨ U ≤ g) (hn : R.n ≤ 1048576) :
    Calls Tryd.prog 47 #[.pointer (some ⟨g, 0, none⟩), .agg #[.int .i64 C.k, .int .i64 C.b, .int .i64 C.r, .int .i64 C.c]] w fun e w' => e = .returned (.tuple #[]) ∧ ∃ R' : RankE, R'.a = R.a ∧ R'.n = R.n ∧ R'.c = R.c ∧ R'.d = doR R.d C ∧ Blk w' g 75 (RkB R') ∧ OwnR w' B U R' ∧ Keeps (fun b => b = g ∨ blkR R b) w w' := by
  obtain ⟨ra, rn, rc, es, rp⟩ := R
  obtain ⟨kk, kb, kr, kc⟩ := C
  have HIN := hid hC
  have HV0 := hid hv
  have HO0 := hid hO
  have HGB := hid hg
  have HLEN : Hid (rn = es.length) := hid (OwnR.reads hO).len
  have HC0 := hid (BoxC.new_ w 40 ⟨kk, kb, kr, kc⟩ rfl)
  clear hv hO hC hg
  dsimp only at HC0 hn
  go_enter Tryd.func47, Tryd.ntmps47
  go_upto_region 1 with (fail)
  refine wp_world (fun W hw => ?_)
  have HC : Hid (BoxC W w.heap.size ⟨kk, kb, kr, kc⟩) := by rw [hw.out]; exact HC0
  have HB : Hid (Below w.heap.size w W) := by rw [hw.out]; exact hid (below_alloc _ _)
  have HV := hid (HV0.out.old HB.out)
  have HO := hid (HO0.out.old HB.out)
  have hgl := HV0.out.lt
  have hgl' := HV.out.lt
  have HGW : Hid (¬ g = w.heap.size) := hid (by omega)
  clear hw HC0 HV0 HO0
  rcases kind9_of (inB_iff.2 HIN.out.1) with rfl | rfl | rfl | rfl | rfl | rfl | rfl | rfl | rfl
  · -- kind 1
    obtain ⟨b0, b1⟩ := HIN.out.2 (show (1 : Int) ≤ 5 by decide)
    dsimp only at b0 b1
    obtain ⟨j, rfl⟩ := Int.eq_ofNat_of_zero_le b0
    have hj : j < rn := by omega
    obtain ⟨ab, ha, hab0, hab1⟩ := OwnF.form HO.out (show 0 < rn by omega)
    dsimp only at ha
    subst ha
    obtain ⟨e, he⟩ := some_at HLEN.out hj
    have HE := hid he
    clear he
    obtain ⟨_, _, x0, x1, y0, y1⟩ := OwnB.cells HO.out HE.out
    have hne : ¬ g = ab := by have := HGB.out; omega
    have hne2 : ¬ ab = g := fun h => hne h.symm
    have hjt : (j : Int).toNat = j := Int.toNat_natCast j
    have hab2 : ab < W.heap.size := by have := HO.out.le; omega
    have S := OwnB.store HO.out HE.out (true, kr)
    have HS := hid S
    clear S
    obtain ⟨_, k0, k1, k2, k3⟩ := HC.out
    have v0 : W.cell? ⟨g, 0, none⟩ = some (.slice (some ⟨ab, 0, none⟩) rn rc) := HV.out.cell (j := 0) rfl
    have hi0 : (0 : Int) ≤ (j : Int) := by omega
    have hi1 : (j : Int) < (rn : Int) := by omega
    go_upto_region 3 with (fail)
    refine wp_region_still_tail 10 (by kernel_rfl) (by kernel_rfl) ?_
    simp only [List.take_succ_cons, List.take_zero, List.drop_succ_cons, List.drop_zero]
    repeat still_step
    refine wpStill_nil ?_
    go_wp2_with fail
    refine bodyPost_end (results_none rfl _ _ _) rfl ⟨rfl, ⟨some ⟨ab, 0, none⟩, rn, rc, es.set j (true, kr), rp⟩, rfl, rfl, rfl, rfl, (Blk.keeps (S := fun b => b = ab) HV.out HS.out.2 hne).drewN 1, OwnF.drewN HS.out.1 1, ?_⟩
    exact (Keeps.of_below HB.out).trans ((HS.out.2.drewN 1).mono (fun b _ hb => .inr ⟨by show rn ≠ 0; omega, by rw [show b = ab from hb]⟩))
  · -- kind 2
    obtain ⟨_, k0, k1, k2, k3⟩ := HC.out
    go_wp2_with fail
    exact bodyPost_end (results_none rfl _ _ _) rfl ⟨rfl, ⟨ra, rn, rc, es, rp⟩, rfl, rfl, rfl, rfl, HV.out, HO.out, Keeps.of_below HB.out⟩
  · -- kind 3
    obtain ⟨_, k0, k1, k2, k3⟩ := HC.out
    go_wp2_with fail
    exact bodyPost_end (results_none rfl _ _ _) rfl ⟨rfl, ⟨ra, rn, rc, es, rp⟩, rfl, rfl, rfl, rfl, HV.out, HO.out, Keeps.of_below HB.out⟩
  · -- kind 4
    obtain ⟨b0, b1⟩ := HIN.out.2 (show (4 : Int) ≤ 5 by decide)
    dsimp only at b0 b1
    obtain ⟨j, rfl⟩ := Int.eq_ofNat_of_zero_le b0
    have hj : j < rn := by omega
    obtain ⟨ab, ha, hab0, hab1⟩ := OwnF.form HO.out (show 0 < rn by omega)
    dsimp only at ha
    subst ha
    obtain ⟨e, he⟩ := some_at HLEN.out hj
    have HE := hid he
    clear he
    obtain ⟨_, _, x0, x1, y0, y1⟩ := OwnB.cells HO.out HE.out
    have hne : ¬ g = ab := by have := HGB.out; omega
    have hne2 : ¬ ab = g := fun h => hne h.symm
    have hjt : (j : Int).toNat = j := Int.toNat_natCast j
    have hab2 : ab < W.heap.size := by have := HO.out.le; omega
    have S := OwnB.store HO.out HE.out (false, 0)
    have HS := hid S
    clear S
    obtain ⟨_, k0, k1, k2, k3⟩ := HC.out
    have v0 : W.cell? ⟨g, 0, none⟩ = some (.slice (some ⟨ab, 0, none⟩) rn rc) := HV.out.cell (j := 0) rfl
    have hi0 : (0 : Int) ≤ (j : Int) := by omega
    have hi1 : (j : Int) < (rn : Int) := by omega
    go_upto_region 5 with (fail)
    refine wp_region_still_tail 8 (by kernel_rfl) (by kernel_rfl) ?_
    simp only [List.take_succ_cons, List.take_zero, List.drop_succ_cons, List.drop_zero]
    repeat still_step
    refine wpStill_nil ?_
    go_wp2_with fail
    refine bodyPost_end (results_none rfl _ _ _) rfl ⟨rfl, ⟨some ⟨ab, 0, none⟩, rn, rc, es.set j (false, 0), rp⟩, rfl, rfl, rfl, rfl, (Blk.keeps (S := fun b => b = ab) HV.out HS.out.2 hne).drewN 1, OwnF.drewN HS.out.1 1, ?_⟩
    exact (Keeps.of_below HB.out).trans ((HS.out.2.drewN 1).mono (fun b _ hb => .inr ⟨by show rn ≠ 0; omega, by rw [show b = ab from hb]⟩))
  · -- kind 5
    obtain ⟨_, k0, k1, k2, k3⟩ := HC.out
    go_wp2_with fail
    exact bodyPost_end (results_none rfl _ _ _) rfl ⟨rfl, ⟨ra, rn, rc, es, rp⟩, rfl, rfl, rfl, rfl, HV.out, HO.out, Keeps.of_below HB.out⟩
  · -- kind 6
    obtain ⟨_, k0, k1, k2, k3⟩ := HC.out
    have f1 := HV.out.frozen 1
    have v1 : W.cell? ⟨g, 1, none⟩ = some (.int .i64 rp) := HV.out.cell (j := 1) rfl
    have HS := hid (HV.out.set 1 (.int .i64 1))
    go_wp2_with fail
    refine bodyPost_end (results_none rfl _ _ _) rfl ⟨rfl, ⟨ra, rn, rc, es, 1⟩, rfl, rfl, rfl, rfl, HS.out.1, HO.out.keeps HS.out.2 (fun b h1 h2 h3 => by have := HGB.out; omega), ?_⟩
    exact (Keeps.of_below HB.out).trans (HS.out.2.mono (fun b _ hb => .inl hb))
  · -- kind 7
    obtain ⟨_, k0, k1, k2, k3⟩ := HC.out
    have f1 := HV.out.frozen 1
    have v1 : W.cell? ⟨g, 1, none⟩ = some (.int .i64 rp) := HV.out.cell (j := 1) rfl
    have HS := hid (HV.out.set 1 (.int .i64 0))
    go_wp2_with fail
    refine bodyPost_end (results_none rfl _ _ _) rfl ⟨rfl, ⟨ra, rn, rc, es, 0⟩, rfl, rfl, rfl, rfl, HS.out.1, HO.out.keeps HS.out.2 (fun b h1 h2 h3 => by have := HGB.out; omega), ?_⟩
    exact (Keeps.of_below HB.out).trans (HS.out.2.mono (fun b _ hb => .inl hb))
  · -- kind 8
    obtain ⟨_, k0, k1, k2, k3⟩ := HC.out
    have f1 := HV.out.frozen 1
    have v1 : W.cell? ⟨g, 1, none⟩ = some (.int .i64 rp) := HV.out.cell (j := 1) rfl
    have HS := hid (HV.out.set 1 (.int .i64 2))
    go_wp2_with fail
    refine bodyPost_end (results_none rfl _ _ _) rfl ⟨rfl, ⟨ra, rn, rc, es, 2⟩, rfl, rfl, rfl, rfl, HS.out.1, HO.out.keeps HS.out.2 (fun b h1 h2 h3 => by have := HGB.out; omega), ?_⟩
    exact (Keeps.of_below HB.out).trans (HS.out.2.mono (fun b _ hb => .inl hb))
  · -- kind 9
    obtain ⟨_, k0, k1, k2, k3⟩ := HC.out
    have f1 := HV.out.frozen 1
    have v1 : W.cell? ⟨g, 1, none⟩ = some (.int .i64 rp) := HV.out.cell (j := 1) rfl
    have HS := hid (HV.out.set 1 (.int .i64 0))
    go_wp2_with fail
    refine bodyPost_end (results_none rfl _ _ _) rfl ⟨rfl, ⟨ra, rn, rc, es, 0⟩, rfl, rfl, rfl, rfl, HS.out.1, HO.out.keeps HS.out.2 (fun b h1 h2 h3 => by have := HGB.out; omega), ?_⟩
    exact (Keeps.of_below HB.out).trans (HS.out.2.mono (fun b _ hb => .inl hb))
end Go.Proofs.YtggjheapjklhgaaDoor
