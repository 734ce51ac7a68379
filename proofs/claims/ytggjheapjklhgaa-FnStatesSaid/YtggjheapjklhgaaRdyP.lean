/- ReadyOk: what the program's and the reference's return. -/
import Derived.Test.YtggjheapjklhgaaRdyO
namespace Go.Proofs.Ytggjheapjklhgaa
open Go.RowKit

def okL (G : Geo) (xs : List Int) (i : Nat) : Bool := inB (xs.getD i 0) (-1) 1000000 && (usedB G i || xs.getD i 0 == -1)
def okA (xs : List Int) (i : Nat) : Bool := inB (xs.getD i 0) 0 1000000 && (i == 0 || decide (xs.getD (i - 1) 0 < xs.getD i 0))
def allTo (f : Nat → Bool) (n : Nat) : Bool := (List.range n).all f
theorem allTo_succ {f : Nat → Bool} {k : Nat} (h : allTo f k = true) (h1 : f k = true) : allTo f (k + 1) = true := by
  unfold allTo at *
  rw [List.range_succ, List.all_append, h]; simp [h1]
theorem allTo_no {f : Nat → Bool} {k n : Nat} (hk : k < n) (h1 : f k = false) : allTo f n = false := by
  unfold allTo
  rw [List.all_eq_false]
  exact ⟨k, List.mem_range.2 hk, by simp [h1]⟩
def lenY (G : Geo) (D : RdyD) : Bool := (D.last.length : Int) == 9 * (bankN G + 1)
def readyOk (G : Geo) (D : RdyD) : Bool := gOk G && lenY G D && decide (D.acts.length ≤ 4) && allTo (okL G D.last) D.last.length && allTo (okA D.acts) D.acts.length
theorem readyOk_geo {G : Geo} {D : RdyD} (h : gOk G = false) : readyOk G D = false := by unfold readyOk; rw [h]; rfl
theorem readyOk_len {G : Geo} {D : RdyD} (h : lenY G D = false) : readyOk G D = false := by unfold readyOk; rw [h]; simp
theorem readyOk_four {G : Geo} {D : RdyD} (h : decide (D.acts.length ≤ 4) = false) : readyOk G D = false := by unfold readyOk; rw [h]; simp
theorem readyOk_last {G : Geo} {D : RdyD} (h : allTo (okL G D.last) D.last.length = false) : readyOk G D = false := by unfold readyOk; rw [h]; simp
theorem readyOk_acts {G : Geo} {D : RdyD} (h : allTo (okA D.acts) D.acts.length = false) : readyOk G D = false := by unfold readyOk; rw [h]; simp
theorem readyOk_yes {G : Geo} {D : RdyD} (h1 : gOk G = true) (h2 : lenY G D = true) (h3 : decide (D.acts.length ≤ 4) = true) (h4 : allTo (okL G D.last) D.last.length = true) (h5 : allTo (okA D.acts) D.acts.length = true) : readyOk G D = true := by
  unfold readyOk; rw [h1, h2, h3, h4, h5]; rfl
theorem getD_of {xs : List Int} {k : Nat} {x : Int} (h : xs[k]? = some x) : xs.getD k 0 = x := by rw [List.getD_eq_getElem?_getD, h]; rfl
theorem l10Used_any (G : Geo) (i : Nat) (w : World) (hi : i ≤ 1048576) :
    Calls Try.prog 131 #[.agg #[.int .i64 G.a, .int .i64 G.b, .int .i64 G.r, .int .i64 G.c], .int .i64 i] w fun e w' => e = .returned (.bool (usedB G i)) ∧ Below w.heap.size w w' := by
  have h0 : (0 : Int) ≤ (i : Int) := by omega
  have h9 : 0 ≤ (i : Int) % 9 ∧ (i : Int) % 9 ≤ 8 := by omega
  have hu : usesB ((i : Int) % 9 + 1) = decide ((i : Int) % 9 + 1 ≤ 5) := by
    unfold usesB inB
    have : decide (1 ≤ (i : Int) % 9 + 1) = true := by simp; omega
    rw [this]; simp
  have HV := hid (show usedB G i = (decide ((i : Int) % 9 + 1 ≤ 5) == decide ((i : Int) / 9 < bankN G)) by unfold usedB; rw [hu]; cases decide ((i : Int) / 9 < bankN G) <;> cases decide ((i : Int) % 9 + 1 ≤ 5) <;> rfl)
  clear hu
  cases d1 : decide ((i : Int) % 9 + 1 ≤ 5) <;> cases d2 : decide ((i : Int) / 9 < bankN G)
  all_goals
    rw [d1, d2] at HV
    go_enter Try.func131, Try.ntmps131
    go_wp2_with fail
    refine (specBankCount_any G _).mono ?_
    rintro e w1 ⟨rfl, B⟩
    go_wp2_with fail
    go_ret
    exact ⟨by rw [HV.out]; rfl, below_step (below_alloc _ _) B (Nat.le_refl _)⟩
set_option maxRecDepth 100000 in
theorem implReadyOk_no (G : Geo) (Y : RdyE) (w : World) (hg : gOk G = false) :
    Calls Try.prog 22 #[.agg #[.int .i64 G.a, .int .i64 G.b, .int .i64 G.r, .int .i64 G.c], .agg #[.slice Y.s0.a Y.s0.n Y.s0.c, .slice Y.s1.a Y.s1.n Y.s1.c]] w fun e w' => e = .returned (.bool false) ∧ Below w.heap.size w w' := by
  have hb := bankN_no hg
  go_enter Try.func22, Try.ntmps22
  go_wp2_with fail
  refine wp_world (fun W hw => ?_)
  have X : BoxG W w.heap.size G := by rw [hw.out]; exact (BoxG.new _ _ _).old (below_alloc _ _)
  have B : Below w.heap.size w W := by rw [hw.out]; exact below_alloc2 _ _ _
  obtain ⟨hlt, c0, c1, c2, c3⟩ := X
  have hov := over_cell W
  clear hw
  refine wp_region_over (by kernel_rfl) (by kernel_rfl) ?_
  repeat (go_big_quiet_step ((first | (go_at_call 78; exact calls_over (implGeometryOk_of hg)) | (go_at_call 79; exact calls_over (implBankCount_any _ _)))))
  refine wpQuiet_nil ?_
  intro W2 B2
  go_wp2_with fail
  go_ret
  exact ⟨rfl, below_step B B2 (Nat.le_refl _)⟩
set_option maxHeartbeats 4000000 in
set_option maxRecDepth 100000 in
theorem implReadyOk_yes (G : Geo) (Y : RdyE) (w : World) (hY : RdyR w Y) (hs : Y.small) (hg : gOk G = true) :
    Calls Try.prog 22 #[.agg #[.int .i64 G.a, .int .i64 G.b, .int .i64 G.r, .int .i64 G.c], .agg #[.slice Y.s0.a Y.s0.n Y.s0.c, .slice Y.s1.a Y.s1.n Y.s1.c]] w fun e w' => e = .returned (.bool (readyOk G Y.d)) ∧ Below w.heap.size w w' := by
  have HGO := hid hg
  have L0 := hid hY.l0
  have L1 := hid hY.l1
  have HR0 := hid hY.last
  have HR1 := hid hY.acts
  have hn0 : Y.s0.n ≤ 1048576 := by rw [hY.l0]; exact hs.1
  have hn1 : Y.s1.n ≤ 1048576 := by rw [hY.l1]; exact hs.2
  have hle := hid (show lenY G Y.d = !((Y.s0.n : Int) != 9 * (bankN G + 1)) by show ((Y.last.length : Int) == _) = _; rw [← hY.l0]; simp [bne])
  have hac := hid (show decide (Y.d.acts.length ≤ 4) = !decide (4 < (Y.s1.n : Int)) by show decide (Y.acts.length ≤ 4) = _; rw [← hY.l1, Bool.eq_iff_iff]; simp; omega)
  have hbd := bankN_bd G
  have e1 : IntKind.i64.wrap (bankN G + 1) = bankN G + 1 := IntWalk.i64_in _ (by omega)
  have e2 : IntKind.i64.wrap (9 * (bankN G + 1)) = 9 * (bankN G + 1) := IntWalk.i64_in _ (by omega)
  clear hY hs hbd
  obtain ⟨sa, hsa⟩ : ∃ sa, Y.s0.a = sa := ⟨_, rfl⟩
  obtain ⟨sb, hsb⟩ : ∃ sb, Y.s1.a = sb := ⟨_, rfl⟩
  have HSA := hid hsa
  have HSB := hid hsb
  rw [hsa] at HR0
  rw [hsb] at HR1
  rw [hsa, hsb]
  clear hsa hsb
  go_enter Try.func22, Try.ntmps22
  go_wp2_with fail
  refine wp_world (fun W hw => ?_)
  have HG : Hid (BoxG W w.heap.size G) := by rw [hw.out]; exact hid ((BoxG.new _ _ _).old (below_alloc _ _))
  have HK : Hid (BoxY W (w.heap.size + 1) Y) := by rw [hw.out, ← HSA.out, ← HSB.out]; exact hid (BoxY.new_ (w.alloc _) _ _ (by simp))
  have HB : Hid (Below w.heap.size w W) := by rw [hw.out]; exact hid (below_alloc2 _ _ _)
  clear hw
  obtain ⟨hlt, c0, c1, c2, c3⟩ := HG.out
  obtain ⟨hlt', d0, d1⟩ := HK.out
  rw [HSA.out] at d0
  rw [HSB.out] at d1
  have hov := over_cell W
  cases k0 : ((Y.s0.n : Int) != 9 * (bankN G + 1)) with
  | true =>
    have HF := hid (readyOk_len (G := G) (D := Y.d) (by rw [hle.out, k0]; rfl))
    refine wp_region_over (by kernel_rfl) (by kernel_rfl) ?_
    repeat (go_big_quiet_step ((first | (go_at_call 78; exact calls_over (implGeometryOk_of hg)) | (go_at_call 79; exact calls_over (implBankCount_any _ _)))))
    refine wpQuiet_nil ?_
    intro W2 B2
    go_wp2_with fail
    go_ret
    exact ⟨by rw [HF.out]; rfl, below_step HB.out B2 (Nat.le_refl _)⟩
  | false =>
    have HLO := hid (show lenY G Y.d = true by rw [hle.out, k0]; rfl)
    cases k1 : decide (4 < (Y.s1.n : Int)) with
    | true =>
      have HF := hid (readyOk_four (G := G) (D := Y.d) (by rw [hac.out, k1]; rfl))
      refine wp_region_over (by kernel_rfl) (by kernel_rfl) ?_
      repeat (go_big_quiet_step ((first | (go_at_call 78; exact calls_over (implGeometryOk_of hg)) | (go_at_call 79; exact calls_over (implBankCount_any _ _)))))
      refine wpQuiet_nil ?_
      intro W2 B2
      go_wp2_with fail
      go_ret
      exact ⟨by rw [HF.out]; rfl, below_step HB.out B2 (Nat.le_refl _)⟩
    | false =>
      have HFO := hid (show decide (Y.d.acts.length ≤ 4) = true by rw [hac.out, k1]; rfl)
      have h4 : Y.s1.n ≤ 4 := by simp at k1; omega
      refine wp_region_over (by kernel_rfl) (by kernel_rfl) ?_
      repeat (go_big_quiet_step ((first | (go_at_call 78; exact calls_over (implGeometryOk_of hg)) | (go_at_call 79; exact calls_over (implBankCount_any _ _)))))
      refine wpQuiet_nil ?_
      intro W2 B2
      have HG2 := hid (HG.out.old B2)
      have HK2 := hid (HK.out.old B2)
      have HB2 := hid (below_step HB.out B2 (Nat.le_refl _))
      clear hov c0 c1 c2 c3 d0 d1 hlt hlt' HB HG HK k0 k1 hle hac B2 e1 e2 hg
      obtain ⟨_, d0, d1⟩ := HK2.out
      rw [HSA.out] at d0
      rw [HSB.out] at d1
      go_wp2_with fail
      clear d0 d1
      go_loopw [33] (fun i wr => ∃ k : Nat, k ≤ Y.s0.n ∧ i = .int .i64 k ∧ Hid (allTo (okL G Y.last) k = true) ∧ Hid (Below W2.heap.size W2 wr)) (fun i _ => Y.s0.n - (intOf i).toNat)
      case atStart => exact ⟨0, Nat.zero_le _, rfl, hid rfl, hid (Below.refl _ _)⟩
      case round =>
        obtain ⟨k, hk, rfl, HA, HB⟩ := hrel
        have HB3 := hid (below_step HB2.out HB.out (Nat.le_refl _))
        obtain ⟨_, d0, d1⟩ := HK2.out.old HB.out
        rw [HSA.out] at d0
        rw [HSB.out] at d1
        by_cases hlk : k < Y.s0.n
        · obtain ⟨x, hx⟩ := some_at L0.out hlk
          obtain ⟨b1, o1, ha, hb1, hc1⟩ := (HR0.out.old HB3.out) k x hx
          subst ha
          have HX := hid (getD_of hx)
          have hkl : k < Y.d.last.length := by show k < Y.last.length; rw [← L0.out]; exact hlk
          obtain ⟨_, g0, g1, g2, g3⟩ := HG2.out.old HB.out
          obtain ⟨ub, hub⟩ : ∃ u, usedB G k = u := ⟨_, rfl⟩
          have HUB := hid hub
          clear hx hub
          go_wp2_with fail
          clear g0 g1 g2 g3
          refine (commandAt_any G k _ (by omega)).mono ?_
          rintro e w3 ⟨rfl, B⟩
          rw [HUB.out]
          have HB4 := hid (below_step HB.out B (Nat.le_refl _))
          have HBC := hid (below_step HB4.out (below_alloc w3 (.cells #[.int .i64 (cmdAt G k).k, .int .i64 (cmdAt G k).b, .int .i64 0, .int .i64 0] 32)) (Nat.le_refl _))
          have HBF := hid (below_step HB2.out HBC.out (Nat.le_refl _))
          clear B d0 d1 hc1
          cases k2 : inB x (-1) 1000000 with
          | false =>
            have HF := hid (readyOk_last (G := G) (D := Y.d) (allTo_no hkl (by show (inB (Y.last.getD k 0) (-1) 1000000 && (usedB G k || Y.last.getD k 0 == -1)) = false; rw [HX.out, HUB.out, k2]; rfl)))
            go_wp2_with (go_at_call 81; with_reducible refine (between_of k2).mono ?_; rintro e w' ⟨rfl, rfl⟩)
            go_ret
            exact ⟨by rw [HF.out]; rfl, HBF.out⟩
          | true =>
            cases ub with
            | true =>
              have HA2 := hid (allTo_succ HA.out (by show (inB (Y.last.getD k 0) (-1) 1000000 && (usedB G k || Y.last.getD k 0 == -1)) = true; rw [HX.out, HUB.out, k2]; rfl))
              go_wp2_with (go_at_call 81; with_reducible refine (between_of k2).mono ?_; rintro e w' ⟨rfl, rfl⟩)
              go_roundw
              case rel => exact ⟨k + 1, by omega, by go_num, HA2, HBC⟩
              case measure => simp [intOf]; omega
            | false =>
              cases k3 : (x != -1) with
              | true =>
                have HF := hid (readyOk_last (G := G) (D := Y.d) (allTo_no hkl (by show (inB (Y.last.getD k 0) (-1) 1000000 && (usedB G k || Y.last.getD k 0 == -1)) = false; rw [HX.out, HUB.out, k2]; simp at k3; simp [k3])))
                go_wp2_with (go_at_call 81; with_reducible refine (between_of k2).mono ?_; rintro e w' ⟨rfl, rfl⟩)
                go_ret
                exact ⟨by rw [HF.out]; rfl, HBF.out⟩
              | false =>
                have HA2 := hid (allTo_succ HA.out (by show (inB (Y.last.getD k 0) (-1) 1000000 && (usedB G k || Y.last.getD k 0 == -1)) = true; rw [HX.out, HUB.out, k2]; simp at k3; simp [k3]))
                go_wp2_with (go_at_call 81; with_reducible refine (between_of k2).mono ?_; rintro e w' ⟨rfl, rfl⟩)
                go_roundw
                case rel => exact ⟨k + 1, by omega, by go_num, HA2, HBC⟩
                case measure => simp [intOf]; omega
        · have hkn : k = Y.s0.n := by omega
          have hall : allTo (okL G Y.d.last) Y.d.last.length = true := by
            have := HA.out
            rw [hkn, L0.out] at this
            exact this
          have HAL := hid hall
          have hlt3 := (HK2.out.old HB.out).lt
          have HK3 := hid (HK2.out.old HB.out)
          clear hall HA hkn
          go_wp2_with fail
          clear d0 d1
          go_loopw [59] (fun i wl => ∃ j : Nat, j ≤ Y.s1.n ∧ i = .int .i64 j ∧ Hid (allTo (okA Y.acts) j = true) ∧ Hid (Below wr.heap.size wr wl)) (fun i _ => Y.s1.n - (intOf i).toNat)
          case atStart => exact ⟨0, Nat.zero_le _, rfl, hid rfl, hid (Below.refl _ _)⟩
          case round =>
            obtain ⟨j, hj, rfl, HA, HBl⟩ := hrel
            have HB5 := hid (below_step HB3.out HBl.out (Nat.le_refl _))
            obtain ⟨_, d0, d1⟩ := HK3.out.old HBl.out
            rw [HSA.out] at d0
            rw [HSB.out] at d1
            by_cases hlj : j < Y.s1.n
            · obtain ⟨x, hx⟩ := some_at L1.out hlj
              obtain ⟨b1, o1, ha, hb1, hc1⟩ := (HR1.out.old HB5.out) j x hx
              subst ha
              have HX := hid (getD_of hx)
              have hjl : j < Y.d.acts.length := by show j < Y.acts.length; rw [← L1.out]; exact hlj
              clear hx
              cases k2 : inB x 0 1000000 with
              | false =>
                have HF := hid (readyOk_acts (G := G) (D := Y.d) (allTo_no hjl (by show (inB (Y.acts.getD j 0) 0 1000000 && (j == 0 || decide (Y.acts.getD (j - 1) 0 < Y.acts.getD j 0))) = false; rw [HX.out, k2]; rfl)))
                go_wp2_with (go_at_call 81; with_reducible refine (between_of k2).mono ?_; rintro e w' ⟨rfl, rfl⟩)
                go_ret
                exact ⟨by rw [HF.out]; rfl, HB5.out⟩
              | true =>
                by_cases hj0 : j = 0
                · subst hj0
                  rw [Nat.add_zero] at hc1
                  have HA2 := hid (allTo_succ HA.out (by show (inB (Y.acts.getD 0 0) 0 1000000 && ((0 : Nat) == 0 || decide (Y.acts.getD (0 - 1) 0 < Y.acts.getD 0 0))) = true; rw [HX.out, k2]; rfl))
                  go_wp2_with (go_at_call 81; with_reducible refine (between_of k2).mono ?_; rintro e w' ⟨rfl, rfl⟩)
                  go_roundw
                  case rel => exact ⟨1, by omega, by go_num, HA2, HBl⟩
                  case measure => simp [intOf]; omega
                · obtain ⟨i, rfl⟩ : ∃ i, j = i + 1 := ⟨j - 1, by omega⟩
                  obtain ⟨y, hy⟩ := some_at L1.out (show i < Y.s1.n by omega)
                  obtain ⟨b2, o2, ha2, hb2, hc2⟩ := (HR1.out.old HB5.out) i y hy
                  simp only [Option.some.injEq, Addr.mk.injEq, and_true] at ha2
                  obtain ⟨rfl, rfl⟩ := ha2
                  have HYy := hid (getD_of hy)
                  have hi1 : (0 : Int) < ((i + 1 : Nat) : Int) := by omega
                  have hi2 : ((i + 1 : Nat) : Int) - 1 = (i : Int) := by omega
                  have hi3 : IntKind.i64.wrap (((i + 1 : Nat) : Int) - 1) = (i : Int) := by rw [hi2]; exact IntWalk.i64_in _ (by omega)
                  have hil : i < Y.s1.n := by omega
                  have hne : ((i + 1 == 0) : Bool) = false := by simp
                  clear hy hj0
                  cases k3 : decide (y < x) with
                  | true =>
                    have HA2 := hid (allTo_succ HA.out (by show (inB (Y.acts.getD (i + 1) 0) 0 1000000 && (i + 1 == 0 || decide (Y.acts.getD (i + 1 - 1) 0 < Y.acts.getD (i + 1) 0))) = true; rw [HX.out, k2, show i + 1 - 1 = i from rfl, HYy.out, k3]; simp))
                    have k4 : decide (x ≤ y) = false := by simp at k3 ⊢; omega
                    go_wp2_with (go_at_call 81; with_reducible refine (between_of k2).mono ?_; rintro e w' ⟨rfl, rfl⟩)
                    go_roundw
                    case rel => exact ⟨i + 1 + 1, by omega, by go_num, HA2, HBl⟩
                    case measure => simp [intOf]; omega
                  | false =>
                    have HF := hid (readyOk_acts (G := G) (D := Y.d) (allTo_no hjl (by show (inB (Y.acts.getD (i + 1) 0) 0 1000000 && (i + 1 == 0 || decide (Y.acts.getD (i + 1 - 1) 0 < Y.acts.getD (i + 1) 0))) = false; rw [HX.out, k2, show i + 1 - 1 = i from rfl, HYy.out, k3, hne]; rfl)))
                    have k4 : decide (x ≤ y) = true := by simp at k3 ⊢; omega
                    go_wp2_with (go_at_call 81; with_reducible refine (between_of k2).mono ?_; rintro e w' ⟨rfl, rfl⟩)
                    go_ret
                    exact ⟨by rw [HF.out]; rfl, HB5.out⟩
            · have hjn : j = Y.s1.n := by omega
              have hall : allTo (okA Y.d.acts) Y.d.acts.length = true := by
                have := HA.out
                rw [hjn, L1.out] at this
                exact this
              have HF := hid (readyOk_yes HGO.out HLO.out HFO.out HAL.out hall)
              clear hall HA hjn
              go_wp2_with fail
              go_ret
              exact ⟨by rw [HF.out]; rfl, HB5.out⟩
theorem implReadyOk_any (G : Geo) (Y : RdyE) (w : World) (hY : RdyR w Y) (hs : Y.small) :
    Calls Try.prog 22 #[.agg #[.int .i64 G.a, .int .i64 G.b, .int .i64 G.r, .int .i64 G.c], .agg #[.slice Y.s0.a Y.s0.n Y.s0.c, .slice Y.s1.a Y.s1.n Y.s1.c]] w fun e w' => e = .returned (.bool (readyOk G Y.d)) ∧ Below w.heap.size w w' := by
  cases hg : gOk G with
  | true => exact implReadyOk_yes G Y w hY hs hg
  | false => rw [readyOk_geo hg]; exact implReadyOk_no G Y w hg
set_option maxRecDepth 100000 in
theorem specReadyOk_no (G : Geo) (Y : RdyE) (w : World) (hg : gOk G = false) :
    Calls Try.prog 88 #[.agg #[.int .i64 G.a, .int .i64 G.b, .int .i64 G.r, .int .i64 G.c], .agg #[.slice Y.s0.a Y.s0.n Y.s0.c, .slice Y.s1.a Y.s1.n Y.s1.c]] w fun e w' => e = .returned (.bool false) ∧ Below w.heap.size w w' := by
  have hb := bankN_no hg
  go_enter Try.func88, Try.ntmps88
  go_wp2_with fail
  refine wp_world (fun W hw => ?_)
  have X : BoxG W w.heap.size G := by rw [hw.out]; exact (BoxG.new _ _ _).old (below_alloc _ _)
  have B : Below w.heap.size w W := by rw [hw.out]; exact below_alloc2 _ _ _
  obtain ⟨hlt, c0, c1, c2, c3⟩ := X
  have hov := over_cell W
  clear hw
  refine wp_region_over (by kernel_rfl) (by kernel_rfl) ?_
  repeat (go_big_quiet_step ((first | (go_at_call 75; exact calls_over (specGeometryOk_of hg)) | (go_at_call 65; exact calls_over (specBankCount_any _ _)))))
  refine wpQuiet_nil ?_
  intro W2 B2
  go_wp2_with fail
  go_ret
  exact ⟨rfl, below_step B B2 (Nat.le_refl _)⟩
set_option maxHeartbeats 4000000 in
set_option maxRecDepth 100000 in
theorem specReadyOk_yes (G : Geo) (Y : RdyE) (w : World) (hY : RdyR w Y) (hs : Y.small) (hg : gOk G = true) :
    Calls Try.prog 88 #[.agg #[.int .i64 G.a, .int .i64 G.b, .int .i64 G.r, .int .i64 G.c], .agg #[.slice Y.s0.a Y.s0.n Y.s0.c, .slice Y.s1.a Y.s1.n Y.s1.c]] w fun e w' => e = .returned (.bool (readyOk G Y.d)) ∧ Below w.heap.size w w' := by
  have HGO := hid hg
  have L0 := hid hY.l0
  have L1 := hid hY.l1
  have HR0 := hid hY.last
  have HR1 := hid hY.acts
  have hn0 : Y.s0.n ≤ 1048576 := by rw [hY.l0]; exact hs.1
  have hn1 : Y.s1.n ≤ 1048576 := by rw [hY.l1]; exact hs.2
  have hle := hid (show lenY G Y.d = !((Y.s0.n : Int) != 9 * (bankN G + 1)) by show ((Y.last.length : Int) == _) = _; rw [← hY.l0]; simp [bne])
  have hac := hid (show decide (Y.d.acts.length ≤ 4) = !decide (4 < (Y.s1.n : Int)) by show decide (Y.acts.length ≤ 4) = _; rw [← hY.l1, Bool.eq_iff_iff]; simp; omega)
  have hbd := bankN_bd G
  have e1 : IntKind.i64.wrap (bankN G + 1) = bankN G + 1 := IntWalk.i64_in _ (by omega)
  have e2 : IntKind.i64.wrap (9 * (bankN G + 1)) = 9 * (bankN G + 1) := IntWalk.i64_in _ (by omega)
  clear hY hs hbd
  obtain ⟨sa, hsa⟩ : ∃ sa, Y.s0.a = sa := ⟨_, rfl⟩
  obtain ⟨sb, hsb⟩ : ∃ sb, Y.s1.a = sb := ⟨_, rfl⟩
  have HSA := hid hsa
  have HSB := hid hsb
  rw [hsa] at HR0
  rw [hsb] at HR1
  rw [hsa, hsb]
  clear hsa hsb
  go_enter Try.func88, Try.ntmps88
  go_wp2_with fail
  refine wp_world (fun W hw => ?_)
  have HG : Hid (BoxG W w.heap.size G) := by rw [hw.out]; exact hid ((BoxG.new _ _ _).old (below_alloc _ _))
  have HK : Hid (BoxY W (w.heap.size + 1) Y) := by rw [hw.out, ← HSA.out, ← HSB.out]; exact hid (BoxY.new_ (w.alloc _) _ _ (by simp))
  have HB : Hid (Below w.heap.size w W) := by rw [hw.out]; exact hid (below_alloc2 _ _ _)
  clear hw
  obtain ⟨hlt, c0, c1, c2, c3⟩ := HG.out
  obtain ⟨hlt', d0, d1⟩ := HK.out
  rw [HSA.out] at d0
  rw [HSB.out] at d1
  have hov := over_cell W
  cases k0 : ((Y.s0.n : Int) != 9 * (bankN G + 1)) with
  | true =>
    have HF := hid (readyOk_len (G := G) (D := Y.d) (by rw [hle.out, k0]; rfl))
    refine wp_region_over (by kernel_rfl) (by kernel_rfl) ?_
    repeat (go_big_quiet_step ((first | (go_at_call 75; exact calls_over (specGeometryOk_of hg)) | (go_at_call 65; exact calls_over (specBankCount_any _ _)))))
    refine wpQuiet_nil ?_
    intro W2 B2
    go_wp2_with fail
    go_ret
    exact ⟨by rw [HF.out]; rfl, below_step HB.out B2 (Nat.le_refl _)⟩
  | false =>
    have HLO := hid (show lenY G Y.d = true by rw [hle.out, k0]; rfl)
    cases k1 : decide (4 < (Y.s1.n : Int)) with
    | true =>
      have HF := hid (readyOk_four (G := G) (D := Y.d) (by rw [hac.out, k1]; rfl))
      refine wp_region_over (by kernel_rfl) (by kernel_rfl) ?_
      repeat (go_big_quiet_step ((first | (go_at_call 75; exact calls_over (specGeometryOk_of hg)) | (go_at_call 65; exact calls_over (specBankCount_any _ _)))))
      refine wpQuiet_nil ?_
      intro W2 B2
      go_wp2_with fail
      go_ret
      exact ⟨by rw [HF.out]; rfl, below_step HB.out B2 (Nat.le_refl _)⟩
    | false =>
      have HFO := hid (show decide (Y.d.acts.length ≤ 4) = true by rw [hac.out, k1]; rfl)
      have h4 : Y.s1.n ≤ 4 := by simp at k1; omega
      refine wp_region_over (by kernel_rfl) (by kernel_rfl) ?_
      repeat (go_big_quiet_step ((first | (go_at_call 75; exact calls_over (specGeometryOk_of hg)) | (go_at_call 65; exact calls_over (specBankCount_any _ _)))))
      refine wpQuiet_nil ?_
      intro W2 B2
      have HG2 := hid (HG.out.old B2)
      have HK2 := hid (HK.out.old B2)
      have HB2 := hid (below_step HB.out B2 (Nat.le_refl _))
      clear hov c0 c1 c2 c3 d0 d1 hlt hlt' HB HG HK k0 k1 hle hac B2 e1 e2 hg
      go_wp2_with fail
      go_loopw [5] (fun i wr => ∃ k : Nat, k ≤ Y.s0.n ∧ i = .int .i64 k ∧ Hid (allTo (okL G Y.last) k = true) ∧ Hid (Below W2.heap.size W2 wr)) (fun i _ => Y.s0.n - (intOf i).toNat)
      case atStart => exact ⟨0, Nat.zero_le _, rfl, hid rfl, hid (Below.refl _ _)⟩
      case round =>
        obtain ⟨k, hk, rfl, HA, HB⟩ := hrel
        have HB3 := hid (below_step HB2.out HB.out (Nat.le_refl _))
        obtain ⟨_, d0, d1⟩ := HK2.out.old HB.out
        rw [HSA.out] at d0
        rw [HSB.out] at d1
        by_cases hlk : k < Y.s0.n
        · obtain ⟨x, hx⟩ := some_at L0.out hlk
          obtain ⟨b1, o1, ha, hb1, hc1⟩ := (HR0.out.old HB3.out) k x hx
          subst ha
          have HX := hid (getD_of hx)
          have hkl : k < Y.d.last.length := by show k < Y.last.length; rw [← L0.out]; exact hlk
          obtain ⟨_, g0, g1, g2, g3⟩ := HG2.out.old HB.out
          obtain ⟨ub, hub⟩ : ∃ u, usedB G k = u := ⟨_, rfl⟩
          have HUB := hid hub
          clear hx hub
          cases k2 : inB x (-1) 1000000 with
          | false =>
            have HF := hid (readyOk_last (G := G) (D := Y.d) (allTo_no hkl (by show (inB (Y.last.getD k 0) (-1) 1000000 && (usedB G k || Y.last.getD k 0 == -1)) = false; rw [HX.out, HUB.out, k2]; rfl)))
            go_wp2_with (go_at_call 89; with_reducible refine (l01In_of k2).mono ?_; rintro e w' ⟨rfl, rfl⟩)
            go_ret
            exact ⟨by rw [HF.out]; rfl, HB3.out⟩
          | true =>
            go_wp2_with (go_at_call 89; with_reducible refine (l01In_of k2).mono ?_; rintro e w' ⟨rfl, rfl⟩)
            refine (l10Used_any G k _ (by omega)).mono ?_
            rintro e w3 ⟨rfl, B⟩
            rw [HUB.out]
            have HBC := hid (below_step HB.out B (Nat.le_refl _))
            have HBF := hid (below_step HB2.out HBC.out (Nat.le_refl _))
            obtain ⟨_, d0, d1⟩ := HK2.out.old HBC.out
            rw [HSA.out] at d0
            rw [HSB.out] at d1
            have hc1 := (B.cell (p := ⟨b1, o1 + k, none⟩) hb1).trans hc1
            clear B
            cases ub with
            | true =>
              have HA2 := hid (allTo_succ HA.out (by show (inB (Y.last.getD k 0) (-1) 1000000 && (usedB G k || Y.last.getD k 0 == -1)) = true; rw [HX.out, HUB.out, k2]; rfl))
              go_wp2_with fail
              go_roundw
              case rel => exact ⟨k + 1, by omega, by go_num, HA2, HBC⟩
              case measure => simp [intOf]; omega
            | false =>
              cases k3 : (x != -1) with
              | true =>
                have HF := hid (readyOk_last (G := G) (D := Y.d) (allTo_no hkl (by show (inB (Y.last.getD k 0) (-1) 1000000 && (usedB G k || Y.last.getD k 0 == -1)) = false; rw [HX.out, HUB.out, k2]; simp at k3; simp [k3])))
                go_wp2_with fail
                go_ret
                exact ⟨by rw [HF.out]; rfl, HBF.out⟩
              | false =>
                have HA2 := hid (allTo_succ HA.out (by show (inB (Y.last.getD k 0) (-1) 1000000 && (usedB G k || Y.last.getD k 0 == -1)) = true; rw [HX.out, HUB.out, k2]; simp at k3; simp [k3]))
                go_wp2_with fail
                go_roundw
                case rel => exact ⟨k + 1, by omega, by go_num, HA2, HBC⟩
                case measure => simp [intOf]; omega
        · have hkn : k = Y.s0.n := by omega
          have hall : allTo (okL G Y.d.last) Y.d.last.length = true := by
            have := HA.out
            rw [hkn, L0.out] at this
            exact this
          have HAL := hid hall
          have hlt3 := (HK2.out.old HB.out).lt
          have HK3 := hid (HK2.out.old HB.out)
          clear hall HA hkn
          go_wp2_with fail
          clear d0 d1
          go_loopw [6] (fun i wl => ∃ j : Nat, j ≤ Y.s1.n ∧ i = .int .i64 j ∧ Hid (allTo (okA Y.acts) j = true) ∧ Hid (Below wr.heap.size wr wl)) (fun i _ => Y.s1.n - (intOf i).toNat)
          case atStart => exact ⟨0, Nat.zero_le _, rfl, hid rfl, hid (Below.refl _ _)⟩
          case round =>
            obtain ⟨j, hj, rfl, HA, HBl⟩ := hrel
            have HB5 := hid (below_step HB3.out HBl.out (Nat.le_refl _))
            obtain ⟨_, d0, d1⟩ := HK3.out.old HBl.out
            rw [HSA.out] at d0
            rw [HSB.out] at d1
            by_cases hlj : j < Y.s1.n
            · obtain ⟨x, hx⟩ := some_at L1.out hlj
              obtain ⟨b1, o1, ha, hb1, hc1⟩ := (HR1.out.old HB5.out) j x hx
              subst ha
              have HX := hid (getD_of hx)
              have hjl : j < Y.d.acts.length := by show j < Y.acts.length; rw [← L1.out]; exact hlj
              clear hx
              cases k2 : inB x 0 1000000 with
              | false =>
                have HF := hid (readyOk_acts (G := G) (D := Y.d) (allTo_no hjl (by show (inB (Y.acts.getD j 0) 0 1000000 && (j == 0 || decide (Y.acts.getD (j - 1) 0 < Y.acts.getD j 0))) = false; rw [HX.out, k2]; rfl)))
                go_wp2_with fail
                refine wp_world (fun wz hz => ?_)
                rw [← hz.out] at HBl d0 d1 hc1 HB5
                clear hz
                have hlz := Nat.lt_of_lt_of_le hlt3 HBl.out.size
                have hb1z : b1 < wz.heap.size := World.block_lt_of_cell? wz _ hc1
                have hov := over_cell wz
                refine wp_region_over (by kernel_rfl) (by kernel_rfl) ?_
                repeat (go_big_quiet_step ((go_at_call 89; with_reducible exact calls_over_same (l01In_of k2))))
                refine wpQuiet_nil ?_
                intro w5 B5
                have HBl := hid (below_step HBl.out B5 (Nat.le_refl _))
                have HB5 := hid (below_step HB3.out HBl.out (Nat.le_refl _))
                clear hov B5
                go_wp2_with fail
                go_ret
                exact ⟨by rw [HF.out]; rfl, HB5.out⟩
              | true =>
                by_cases hj0 : j = 0
                · subst hj0
                  rw [Nat.add_zero] at hc1
                  have HA2 := hid (allTo_succ HA.out (by show (inB (Y.acts.getD 0 0) 0 1000000 && ((0 : Nat) == 0 || decide (Y.acts.getD (0 - 1) 0 < Y.acts.getD 0 0))) = true; rw [HX.out, k2]; rfl))
                  go_wp2_with fail
                  refine wp_world (fun wz hz => ?_)
                  rw [← hz.out] at HBl d0 d1 hc1 HB5
                  clear hz
                  have hlz := Nat.lt_of_lt_of_le hlt3 HBl.out.size
                  have hb1z : b1 < wz.heap.size := World.block_lt_of_cell? wz _ hc1
                  have hov := over_cell wz
                  refine wp_region_over (by kernel_rfl) (by kernel_rfl) ?_
                  repeat (go_big_quiet_step ((go_at_call 89; with_reducible exact calls_over_same (l01In_of k2))))
                  refine wpQuiet_nil ?_
                  intro w5 B5
                  have HBl := hid (below_step HBl.out B5 (Nat.le_refl _))
                  have HB5 := hid (below_step HB3.out HBl.out (Nat.le_refl _))
                  clear hov B5
                  go_wp2_with fail
                  go_roundw
                  case rel => exact ⟨1, by omega, by go_num, HA2, HBl⟩
                  case measure => simp [intOf]; omega
                · obtain ⟨i, rfl⟩ : ∃ i, j = i + 1 := ⟨j - 1, by omega⟩
                  obtain ⟨y, hy⟩ := some_at L1.out (show i < Y.s1.n by omega)
                  obtain ⟨b2, o2, ha2, hb2, hc2⟩ := (HR1.out.old HB5.out) i y hy
                  simp only [Option.some.injEq, Addr.mk.injEq, and_true] at ha2
                  obtain ⟨rfl, rfl⟩ := ha2
                  have HYy := hid (getD_of hy)
                  have hi1 : (0 : Int) < ((i + 1 : Nat) : Int) := by omega
                  have hi2 : ((i + 1 : Nat) : Int) - 1 = (i : Int) := by omega
                  have hi3 : IntKind.i64.wrap (((i + 1 : Nat) : Int) - 1) = (i : Int) := by rw [hi2]; exact IntWalk.i64_in _ (by omega)
                  have hil : i < Y.s1.n := by omega
                  have hne : ((i + 1 == 0) : Bool) = false := by simp
                  clear hy hj0
                  cases k3 : decide (y < x) with
                  | true =>
                    have HA2 := hid (allTo_succ HA.out (by show (inB (Y.acts.getD (i + 1) 0) 0 1000000 && (i + 1 == 0 || decide (Y.acts.getD (i + 1 - 1) 0 < Y.acts.getD (i + 1) 0))) = true; rw [HX.out, k2, show i + 1 - 1 = i from rfl, HYy.out, k3]; simp))
                    have k4 : decide (x ≤ y) = false := by simp at k3 ⊢; omega
                    go_wp2_with fail
                    refine wp_world (fun wz hz => ?_)
                    rw [← hz.out] at HBl d0 d1 hc1 HB5 hc2
                    clear hz
                    have hlz := Nat.lt_of_lt_of_le hlt3 HBl.out.size
                    have hb1z : b1 < wz.heap.size := World.block_lt_of_cell? wz _ hc1
                    have hov := over_cell wz
                    refine wp_region_over (by kernel_rfl) (by kernel_rfl) ?_
                    repeat (go_big_quiet_step ((go_at_call 89; with_reducible exact calls_over_same (l01In_of k2))))
                    refine wpQuiet_nil ?_
                    intro w5 B5
                    have HBl := hid (below_step HBl.out B5 (Nat.le_refl _))
                    have HB5 := hid (below_step HB3.out HBl.out (Nat.le_refl _))
                    clear hov B5
                    go_wp2_with fail
                    go_roundw
                    case rel => exact ⟨i + 1 + 1, by omega, by go_num, HA2, HBl⟩
                    case measure => simp [intOf]; omega
                  | false =>
                    have HF := hid (readyOk_acts (G := G) (D := Y.d) (allTo_no hjl (by show (inB (Y.acts.getD (i + 1) 0) 0 1000000 && (i + 1 == 0 || decide (Y.acts.getD (i + 1 - 1) 0 < Y.acts.getD (i + 1) 0))) = false; rw [HX.out, k2, show i + 1 - 1 = i from rfl, HYy.out, k3, hne]; rfl)))
                    have k4 : decide (x ≤ y) = true := by simp at k3 ⊢; omega
                    go_wp2_with fail
                    refine wp_world (fun wz hz => ?_)
                    rw [← hz.out] at HBl d0 d1 hc1 HB5 hc2
                    clear hz
                    have hlz := Nat.lt_of_lt_of_le hlt3 HBl.out.size
                    have hb1z : b1 < wz.heap.size := World.block_lt_of_cell? wz _ hc1
                    have hov := over_cell wz
                    refine wp_region_over (by kernel_rfl) (by kernel_rfl) ?_
                    repeat (go_big_quiet_step ((go_at_call 89; with_reducible exact calls_over_same (l01In_of k2))))
                    refine wpQuiet_nil ?_
                    intro w5 B5
                    have HBl := hid (below_step HBl.out B5 (Nat.le_refl _))
                    have HB5 := hid (below_step HB3.out HBl.out (Nat.le_refl _))
                    clear hov B5
                    go_wp2_with fail
                    go_ret
                    exact ⟨by rw [HF.out]; rfl, HB5.out⟩
            · have hjn : j = Y.s1.n := by omega
              have hall : allTo (okA Y.d.acts) Y.d.acts.length = true := by
                have := HA.out
                rw [hjn, L1.out] at this
                exact this
              have HF := hid (readyOk_yes HGO.out HLO.out HFO.out HAL.out hall)
              clear hall HA hjn
              go_wp2_with fail
              go_ret
              exact ⟨by rw [HF.out]; rfl, HB5.out⟩
theorem specReadyOk_any (G : Geo) (Y : RdyE) (w : World) (hY : RdyR w Y) (hs : Y.small) :
    Calls Try.prog 88 #[.agg #[.int .i64 G.a, .int .i64 G.b, .int .i64 G.r, .int .i64 G.c], .agg #[.slice Y.s0.a Y.s0.n Y.s0.c, .slice Y.s1.a Y.s1.n Y.s1.c]] w fun e w' => e = .returned (.bool (readyOk G Y.d)) ∧ Below w.heap.size w w' := by
  cases hg : gOk G with
  | true => exact specReadyOk_yes G Y w hY hs hg
  | false => rw [readyOk_geo hg]; exact specReadyOk_no G Y w hg
end Go.Proofs.Ytggjheapjklhgaa
