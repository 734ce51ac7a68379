/- Allowed: what the program's and the reference's return. -/
import Derived.Test.YtggjheapjklhgaaDoorRnkF
import Derived.Test.YtggjheapjklhgaaDoorCmdW
import Derived.Test.YtggjheapjklhgaaDoorGapG
import Derived.Deep.Cut
namespace Go.Proofs.YtggjheapjklhgaaDoor
open Go.RowKit

/-- Is the bank open? -/
def openAt (D : RkD) (b : Int) : Bool := match D.banks[b.toNat]? with | some x => x.1 | none => false
def may (D : RkD) (C : Cmd) : Bool :=
  if (C.k == 1 || C.k == 5) = true then D.p == 0 && !openAt D C.b
  else if (C.k == 2 || C.k == 3 || C.k == 4) = true then D.p == 0 && openAt D C.b
  else if (C.k == 6) = true then D.p == 0
  else if (C.k == 8) = true then D.p == 0 && (openB D.banks).isEmpty
  else if (C.k == 7) = true then D.p == 1
  else D.p == 2
def allowed (G : Geo) (D : RkD) (C : Cmd) : Bool := rankOk G D && cmdOk G C && may D C
theorem openAt_at {D : RkD} {k : Nat} {x : Bool × Int} (h : D.banks[k]? = some x) : openAt D k = x.1 := by
  unfold openAt; rw [Int.toNat_natCast, h]
/-- What 'may' asks of a command. -/
def inR (n : Nat) (C : Cmd) : Prop := (1 ≤ C.k ∧ C.k ≤ 9) ∧ (C.k ≤ 5 → 0 ≤ C.b ∧ C.b < n)
set_option maxHeartbeats 4000000 in
set_option maxRecDepth 100000 in
theorem l08May_any (R : RankE) (C : Cmd) (w : World) (hR : RankR w R) (hn : R.n ≤ 1048576) (hC : inR R.n C) :
    Calls Tryd.prog 45 #[.agg #[.slice R.a R.n R.c, .int .i64 R.p], .agg #[.int .i64 C.k, .int .i64 C.b, .int .i64 C.r, .int .i64 C.c]] w fun e w' => e = .returned (.bool (may R.d C)) ∧ Below w.heap.size w w' := by
  obtain ⟨sa, hsa⟩ : ∃ sa, R.a = sa := ⟨_, rfl⟩
  have HSA := hid hsa
  obtain ⟨sp, hsp⟩ : ∃ sp, R.p = sp := ⟨_, rfl⟩
  have HSP := hid hsp
  have HR0 := hid hR
  have HIN := hid hC
  have HK0 := hid ((BoxK2.new_ w 75 R rfl).old (below_alloc _ (.cells #[.int .i64 C.k, .int .i64 C.b, .int .i64 C.r, .int .i64 C.c] 40)))
  have HC0 := hid (BoxC.new_ (w.alloc (.cells #[.slice R.a R.n R.c, .int .i64 R.p] 75)) 40 C (show _ = w.heap.size + 1 by simp))
  have HBB := hid (below_alloc2 w (.cells #[.slice R.a R.n R.c, .int .i64 R.p] 75) (.cells #[.int .i64 C.k, .int .i64 C.b, .int .i64 C.r, .int .i64 C.c] 40))
  rw [hsa, hsp] at HK0 HC0 HBB
  rw [hsa, hsp]
  clear hsa hsp hR hC
  obtain ⟨kk, kb, kr, kc⟩ := C
  dsimp only at HK0 HC0 HBB ⊢
  go_enter Tryd.func45, Tryd.ntmps45
  go_upto_region 1 with (fail)
  refine wp_world (fun W hw => ?_)
  have HK : Hid (BoxK2 W w.heap.size R) := by rw [hw.out]; exact HK0
  have HC : Hid (BoxC W (w.heap.size + 1) ⟨kk, kb, kr, kc⟩) := by rw [hw.out]; exact HC0
  have HB : Hid (Below w.heap.size w W) := by rw [hw.out]; exact HBB
  have HR := hid (HR0.out.old HB.out)
  clear hw HK0 HC0 HBB
  rcases kind9_of (inB_iff.2 HIN.out.1) with rfl | rfl | rfl | rfl | rfl | rfl | rfl | rfl | rfl
  · -- kind 1
    obtain ⟨b0, b1⟩ := HIN.out.2 (show (1 : Int) ≤ 5 by decide)
    dsimp only at b0 b1
    obtain ⟨j, rfl⟩ := Int.eq_ofNat_of_zero_le b0
    obtain ⟨e, ab, ao, he, ha, hab, hc0, hc1⟩ := HR.out.at_ (k := j) (by omega)
    have HO := hid (openAt_at (D := R.d) he)
    obtain ⟨eo, ev⟩ := e
    rw [HSA.out] at ha
    subst ha
    have hjn : j < R.n := by omega
    clear he
    obtain ⟨_, d0, d1⟩ := HK.out
    rw [HSA.out] at d0
    rw [HSP.out] at d1
    obtain ⟨_, k0, k1, k2, k3⟩ := HC.out
    cases hp : (sp == 0) with
    | false =>
      have HV := hid (show may R.d ⟨1, (j : Int), kr, kc⟩ = false by show (R.p == 0 && _) = false; rw [HSP.out, hp]; rfl)
      go_wp2_with fail
      go_ret
      exact ⟨by rw [HV.out]; rfl, HB.out⟩
    | true =>
      cases eo
      all_goals
        have HV := hid (show may R.d ⟨1, (j : Int), kr, kc⟩ = _ by show (R.p == 0 && !openAt R.d (j : Int)) = _; rw [HSP.out, hp, HO.out])
        go_wp2_with fail
        go_ret
        exact ⟨by rw [HV.out]; rfl, HB.out⟩
  · -- kind 2
    obtain ⟨b0, b1⟩ := HIN.out.2 (show (2 : Int) ≤ 5 by decide)
    dsimp only at b0 b1
    obtain ⟨j, rfl⟩ := Int.eq_ofNat_of_zero_le b0
    obtain ⟨e, ab, ao, he, ha, hab, hc0, hc1⟩ := HR.out.at_ (k := j) (by omega)
    have HO := hid (openAt_at (D := R.d) he)
    obtain ⟨eo, ev⟩ := e
    rw [HSA.out] at ha
    subst ha
    have hjn : j < R.n := by omega
    clear he
    obtain ⟨_, d0, d1⟩ := HK.out
    rw [HSA.out] at d0
    rw [HSP.out] at d1
    obtain ⟨_, k0, k1, k2, k3⟩ := HC.out
    cases hp : (sp == 0) with
    | false =>
      have HV := hid (show may R.d ⟨2, (j : Int), kr, kc⟩ = false by show (R.p == 0 && _) = false; rw [HSP.out, hp]; rfl)
      go_wp2_with fail
      go_ret
      exact ⟨by rw [HV.out]; rfl, HB.out⟩
    | true =>
      cases eo
      all_goals
        have HV := hid (show may R.d ⟨2, (j : Int), kr, kc⟩ = _ by show (R.p == 0 && openAt R.d (j : Int)) = _; rw [HSP.out, hp, HO.out])
        go_wp2_with fail
        go_ret
        exact ⟨by rw [HV.out]; rfl, HB.out⟩
  · -- kind 3
    obtain ⟨b0, b1⟩ := HIN.out.2 (show (3 : Int) ≤ 5 by decide)
    dsimp only at b0 b1
    obtain ⟨j, rfl⟩ := Int.eq_ofNat_of_zero_le b0
    obtain ⟨e, ab, ao, he, ha, hab, hc0, hc1⟩ := HR.out.at_ (k := j) (by omega)
    have HO := hid (openAt_at (D := R.d) he)
    obtain ⟨eo, ev⟩ := e
    rw [HSA.out] at ha
    subst ha
    have hjn : j < R.n := by omega
    clear he
    obtain ⟨_, d0, d1⟩ := HK.out
    rw [HSA.out] at d0
    rw [HSP.out] at d1
    obtain ⟨_, k0, k1, k2, k3⟩ := HC.out
    cases hp : (sp == 0) with
    | false =>
      have HV := hid (show may R.d ⟨3, (j : Int), kr, kc⟩ = false by show (R.p == 0 && _) = false; rw [HSP.out, hp]; rfl)
      go_wp2_with fail
      go_ret
      exact ⟨by rw [HV.out]; rfl, HB.out⟩
    | true =>
      cases eo
      all_goals
        have HV := hid (show may R.d ⟨3, (j : Int), kr, kc⟩ = _ by show (R.p == 0 && openAt R.d (j : Int)) = _; rw [HSP.out, hp, HO.out])
        go_wp2_with fail
        go_ret
        exact ⟨by rw [HV.out]; rfl, HB.out⟩
  · -- kind 4
    obtain ⟨b0, b1⟩ := HIN.out.2 (show (4 : Int) ≤ 5 by decide)
    dsimp only at b0 b1
    obtain ⟨j, rfl⟩ := Int.eq_ofNat_of_zero_le b0
    obtain ⟨e, ab, ao, he, ha, hab, hc0, hc1⟩ := HR.out.at_ (k := j) (by omega)
    have HO := hid (openAt_at (D := R.d) he)
    obtain ⟨eo, ev⟩ := e
    rw [HSA.out] at ha
    subst ha
    have hjn : j < R.n := by omega
    clear he
    obtain ⟨_, d0, d1⟩ := HK.out
    rw [HSA.out] at d0
    rw [HSP.out] at d1
    obtain ⟨_, k0, k1, k2, k3⟩ := HC.out
    cases hp : (sp == 0) with
    | false =>
      have HV := hid (show may R.d ⟨4, (j : Int), kr, kc⟩ = false by show (R.p == 0 && _) = false; rw [HSP.out, hp]; rfl)
      go_wp2_with fail
      go_ret
      exact ⟨by rw [HV.out]; rfl, HB.out⟩
    | true =>
      cases eo
      all_goals
        have HV := hid (show may R.d ⟨4, (j : Int), kr, kc⟩ = _ by show (R.p == 0 && openAt R.d (j : Int)) = _; rw [HSP.out, hp, HO.out])
        go_wp2_with fail
        go_ret
        exact ⟨by rw [HV.out]; rfl, HB.out⟩
  · -- kind 5
    obtain ⟨b0, b1⟩ := HIN.out.2 (show (5 : Int) ≤ 5 by decide)
    dsimp only at b0 b1
    obtain ⟨j, rfl⟩ := Int.eq_ofNat_of_zero_le b0
    obtain ⟨e, ab, ao, he, ha, hab, hc0, hc1⟩ := HR.out.at_ (k := j) (by omega)
    have HO := hid (openAt_at (D := R.d) he)
    obtain ⟨eo, ev⟩ := e
    rw [HSA.out] at ha
    subst ha
    have hjn : j < R.n := by omega
    clear he
    obtain ⟨_, d0, d1⟩ := HK.out
    rw [HSA.out] at d0
    rw [HSP.out] at d1
    obtain ⟨_, k0, k1, k2, k3⟩ := HC.out
    cases hp : (sp == 0) with
    | false =>
      have HV := hid (show may R.d ⟨5, (j : Int), kr, kc⟩ = false by show (R.p == 0 && _) = false; rw [HSP.out, hp]; rfl)
      go_wp2_with fail
      go_ret
      exact ⟨by rw [HV.out]; rfl, HB.out⟩
    | true =>
      cases eo
      all_goals
        have HV := hid (show may R.d ⟨5, (j : Int), kr, kc⟩ = _ by show (R.p == 0 && !openAt R.d (j : Int)) = _; rw [HSP.out, hp, HO.out])
        go_wp2_with fail
        go_ret
        exact ⟨by rw [HV.out]; rfl, HB.out⟩
  · -- kind 6
    obtain ⟨_, d0, d1⟩ := HK.out
    rw [HSA.out] at d0
    rw [HSP.out] at d1
    obtain ⟨_, k0, k1, k2, k3⟩ := HC.out
    cases hp : (sp == 0)
    all_goals
      have HV := hid (show may R.d ⟨6, kb, kr, kc⟩ = _ by show (R.p == 0) = _; rw [HSP.out, hp])
      go_wp2_with fail
      go_ret
      exact ⟨by rw [HV.out]; rfl, HB.out⟩
  · -- kind 7
    obtain ⟨_, d0, d1⟩ := HK.out
    rw [HSA.out] at d0
    rw [HSP.out] at d1
    obtain ⟨_, k0, k1, k2, k3⟩ := HC.out
    cases hp : (sp == 1)
    all_goals
      have HV := hid (show may R.d ⟨7, kb, kr, kc⟩ = _ by show (R.p == 1) = _; rw [HSP.out, hp])
      go_wp2_with fail
      go_ret
      exact ⟨by rw [HV.out]; rfl, HB.out⟩
  · -- kind 8
    obtain ⟨_, d0, d1⟩ := HK.out
    rw [HSA.out] at d0
    rw [HSP.out] at d1
    obtain ⟨_, k0, k1, k2, k3⟩ := HC.out
    cases hp : (sp == 0) with
    | false =>
      have HV := hid (show may R.d ⟨8, kb, kr, kc⟩ = false by show (R.p == 0 && _) = false; rw [HSP.out, hp]; rfl)
      go_wp2_with fail
      go_ret
      exact ⟨by rw [HV.out]; rfl, HB.out⟩
    | true =>
      have HV := hid (show may R.d ⟨8, kb, kr, kc⟩ = (openB R.es).isEmpty by show (R.p == 0 && _) = _; rw [HSP.out, hp]; rfl)
      go_wp2_with fail
      refine (calls_args (by rw [HSA.out, HSP.out]) (specOpenBanks_any R _ HR.out hn)).mono ?_
      rintro e w9 ⟨a', m', c', rfl, O, B⟩
      have HM := hid (show (openB R.es).isEmpty = decide (m' = 0) by rw [O.length]; cases openB R.es <;> simp)
      have HB9 := hid (below_step (HB.out) B (Nat.le_refl _))
      clear O B
      cases k4 : ((m' : Int) == 0)
      all_goals
        go_wp2_with fail
        go_ret
        exact ⟨by rw [HV.out, HM.out]; simp at k4; simp [k4], HB9.out⟩
  · -- kind 9
    obtain ⟨_, d0, d1⟩ := HK.out
    rw [HSA.out] at d0
    rw [HSP.out] at d1
    obtain ⟨_, k0, k1, k2, k3⟩ := HC.out
    cases hp : (sp == 2)
    all_goals
      have HV := hid (show may R.d ⟨9, kb, kr, kc⟩ = _ by show (R.p == 2) = _; rw [HSP.out, hp])
      go_wp2_with fail
      go_ret
      exact ⟨by rw [HV.out]; rfl, HB.out⟩
theorem inR_of {G : Geo} {R : RankE} {C : Cmd} (hl : R.n = R.es.length) (h1 : rankOk G R.d = true) (h2 : cmdOk G C = true) : inR R.n C := by
  obtain ⟨_, hk, hb, _⟩ := cmdOk_parts h2
  refine ⟨hk, fun h5 => ?_⟩
  have hu : usesB C.k = true := by unfold usesB inB; simp; omega
  have := hb.1 hu
  have hln : ((R.es.length : Int) == bankN G) = true := by
    unfold rankOk at h1
    simp only [Bool.and_eq_true] at h1
    exact h1.1.1.1.2
  simp at hln
  omega
set_option maxHeartbeats 4000000 in
set_option maxRecDepth 100000 in
theorem specAllowed_any (G : Geo) (R : RankE) (C : Cmd) (w : World) (hR : RankR w R) (hn : R.n ≤ 1048576) :
    Calls Tryd.prog 55 #[.agg #[.int .i64 G.a, .int .i64 G.b, .int .i64 G.r, .int .i64 G.c], .agg #[.slice R.a R.n R.c, .int .i64 R.p], .agg #[.int .i64 C.k, .int .i64 C.b, .int .i64 C.r, .int .i64 C.c]] w fun e w' => e = .returned (.bool (allowed G R.d C)) ∧ Below w.heap.size w w' := by
  have HR0 := hid hR
  have HBB := hid (below_alloc3 w (.cells #[.int .i64 G.a, .int .i64 G.b, .int .i64 G.r, .int .i64 G.c] 32) (.cells #[.slice R.a R.n R.c, .int .i64 R.p] 75) (.cells #[.int .i64 C.k, .int .i64 C.b, .int .i64 C.r, .int .i64 C.c] 40))
  have HG0 := hid (((BoxG.new_ w 32 G rfl).old (below_alloc _ (.cells #[.slice R.a R.n R.c, .int .i64 R.p] 75))).old (below_alloc _ (.cells #[.int .i64 C.k, .int .i64 C.b, .int .i64 C.r, .int .i64 C.c] 40)))
  have HK0 := hid ((BoxK2.new_ (w.alloc (.cells #[.int .i64 G.a, .int .i64 G.b, .int .i64 G.r, .int .i64 G.c] 32)) 75 R (show _ = w.heap.size + 1 by simp)).old (below_alloc _ (.cells #[.int .i64 C.k, .int .i64 C.b, .int .i64 C.r, .int .i64 C.c] 40)))
  have HC0 := hid (BoxC.new_ ((w.alloc (.cells #[.int .i64 G.a, .int .i64 G.b, .int .i64 G.r, .int .i64 G.c] 32)).alloc (.cells #[.slice R.a R.n R.c, .int .i64 R.p] 75)) 40 C (show _ = w.heap.size + 1 + 1 by simp))
  clear hR
  go_enter Tryd.func55, Tryd.ntmps55
  go_wp2_with fail
  refine (specRankOk_any G R _ (HR0.out.old HBB.out) hn).mono ?_
  rintro e w1 ⟨rfl, B⟩
  have HB := hid (below_step HBB.out B (Nat.le_refl _))
  have HG := hid (HG0.out.old B)
  have HK := hid (HK0.out.old B)
  have HC := hid (HC0.out.old B)
  clear B HBB HG0 HK0 HC0
  cases h1 : rankOk G R.d with
  | false =>
    have HV := hid (show allowed G R.d C = false by unfold allowed; rw [h1]; rfl)
    go_wp2_with fail
    go_ret
    exact ⟨by rw [HV.out]; rfl, HB.out⟩
  | true =>
    obtain ⟨_, g0, g1, g2, g3⟩ := HG.out
    obtain ⟨_, k0, k1, k2, k3⟩ := HC.out
    go_wp2_with fail
    clear g0 g1 g2 g3 k0 k1 k2 k3
    refine (specCommandOk_any G C _).mono ?_
    rintro e w2 ⟨rfl, B⟩
    have HB := hid (below_step HB.out B (Nat.le_refl _))
    have HK := hid (HK.out.old B)
    have HC := hid (HC.out.old B)
    clear B HG
    have HR := hid (HR0.out.old HB.out)
    cases h2 : cmdOk G C with
    | false =>
      have HV := hid (show allowed G R.d C = false by unfold allowed; rw [h2]; simp)
      go_wp2_with fail
      go_ret
      exact ⟨by rw [HV.out]; rfl, HB.out⟩
    | true =>
      have HA := hid (show allowed G R.d C = may R.d C by unfold allowed; rw [h1, h2]; rfl)
      have HIN := hid (inR_of HR0.out.len h1 h2)
      clear h1 h2
      obtain ⟨_, d0, d1⟩ := HK.out
      obtain ⟨_, k0, k1, k2, k3⟩ := HC.out
      go_wp2_with fail
      clear d0 d1 k0 k1 k2 k3
      refine (l08May_any R C _ HR.out hn HIN.out).mono ?_
      rintro e w3 ⟨rfl, B⟩
      go_wp2_with fail
      go_ret
      exact ⟨by rw [HA.out]; rfl, below_step HB.out B (Nat.le_refl _)⟩
end Go.Proofs.YtggjheapjklhgaaDoor
