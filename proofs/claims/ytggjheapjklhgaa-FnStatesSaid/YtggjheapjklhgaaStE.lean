/- The law's helpers that compare states. -/
import Derived.Test.YtggjheapjklhgaaRkA
import Derived.Test.YtggjheapjklhgaaRnkF
namespace Go.Proofs.Ytggjheapjklhgaa
open Go.RowKit
theorem sameBanks_same (a b : Option Addr) (n m c d : Nat) (es : List (Bool × Int)) (w : World) (hx : RecR encB 2 w a es) (hy : RecR encB 2 w b es) (hn : n = es.length) (hm : m = es.length) (hl : n ≤ 1048576) :
    Calls Try.prog 100 #[.slice a n c, .slice b m d] w fun e w' => e = .returned (.bool true) ∧ Below w.heap.size w w' := by
  have hnm : n = m := hn.trans hm.symm
  subst hnm
  have HX := hid hx
  have HY := hid hy
  have HN := hid hn
  clear hx hy hn hm
  go_enter Try.func100, Try.ntmps100
  go_wp2
  go_loopw [5] (fun i wr => ∃ k : Nat, k ≤ n ∧ i = .int .i64 k ∧ Hid (Below w.heap.size w wr)) (fun i _ => n - (intOf i).toNat)
  case atStart => exact ⟨0, Nat.zero_le _, rfl, hid (Below.refl _ _)⟩
  case round =>
    obtain ⟨k, hk, rfl, HB⟩ := hrel
    by_cases hlt : k < n
    · obtain ⟨e, he⟩ := some_at HN.out hlt
      obtain ⟨b1, o1, rfl, hb1, hc⟩ := (HX.out.old HB.out) k e he
      obtain ⟨b2, o2, rfl, hb2, hd⟩ := (HY.out.old HB.out) k e he
      have hc0 := hc 0 _ rfl
      have hc1 := hc 1 _ rfl
      have hd0 := hd 0 _ rfl
      have hd1 := hd 1 _ rfl
      rw [Nat.add_zero] at hc0 hd0
      clear he hc hd
      have hki : (0 : Int) ≤ (k : Int) := by omega
      have hki2 : (k : Int) < n := by omega
      have hov := over_cell wr
      go_wp2_with fail
      refine wp_region_over (by kernel_rfl) (by kernel_rfl) ?_
      repeat (go_big_quiet_step (fail))
      refine wpQuiet_nil ?_
      intro w2 B2
      clear hov hc0 hc1 hd0 hd1
      have HB2 := hid (below_step HB.out B2 (Nat.le_refl _))
      go_wp2
      go_roundw
      case rel => exact ⟨k + 1, by omega, by go_num, HB2⟩
      case measure => simp [intOf]; omega
    · go_wp2
      go_ret
      exact ⟨rfl, HB.out⟩
theorem sameRank_same (R S : RankE) (w : World) (hR : RankR w R) (hS : RankR w S) (he : R.d = S.d) (hl : R.n ≤ 1048576) :
    Calls Try.prog 37 #[.agg #[.slice R.a R.n R.c, .int .i64 R.p], .agg #[.slice S.a S.n S.c, .int .i64 S.p]] w fun e w' => e = .returned (.bool true) ∧ Below w.heap.size w w' := by
  obtain ⟨ra, rn, rc, rs, rp⟩ := R
  obtain ⟨sa, sn, sc, ss, sp⟩ := S
  obtain ⟨e1, e2⟩ := RkD.parts he
  have e1 : ss = rs := e1.symm
  have e2 : sp = rp := e2.symm
  subst e1 e2
  have HR := hid hR
  have HS := hid hS
  have HL := hid hl
  have HK1 := hid ((BoxK2.new_ w 41 ⟨ra, rn, rc, ss, rp⟩ rfl).old (below_alloc _ (.cells #[.slice sa sn sc, .int .i64 rp] 41)))
  have HK2 := hid (BoxK2.new_ (w.alloc (.cells #[.slice ra rn rc, .int .i64 rp] 41)) 41 ⟨sa, sn, sc, ss, rp⟩ (show _ = w.heap.size + 1 by simp))
  clear hR hS hl he
  go_enter Try.func37, Try.ntmps37
  go_upto_region 1 with (fail)
  refine wp_world (fun w1 hw => ?_)
  have HK1 : Hid (BoxK2 w1 w.heap.size ⟨ra, rn, rc, ss, rp⟩) := by rw [hw.out]; exact HK1
  have HK2 : Hid (BoxK2 w1 (w.heap.size + 1) ⟨sa, sn, sc, ss, rp⟩) := by rw [hw.out]; exact HK2
  have HB : Hid (Below w.heap.size w w1) := by rw [hw.out]; exact hid (below_alloc2 _ _ _)
  clear hw
  obtain ⟨_, x0, x1⟩ := HK1.out
  obtain ⟨_, y0, y1⟩ := HK2.out
  have hpp : (rp == rp) = true := by simp
  go_wp2_with fail
  refine (sameBanks_same _ _ _ _ _ _ ss _ (HR.out.recs.old HB.out) (HS.out.recs.old HB.out) HR.out.len HS.out.len HL.out).mono ?_
  rintro e w2 ⟨rfl, B⟩
  have HB := hid (below_step HB.out B (Nat.le_refl _))
  clear B
  go_wp2_with fail
  go_ret
  exact ⟨rfl, HB.out⟩
end Go.Proofs.Ytggjheapjklhgaa
