/- RankOk: what the program's and the reference's return. -/
import Derived.Test.YtggjheapjklhgaaRnkF
import Derived.Test.YtggjheapjklhgaaInv
namespace Go.Proofs.Ytggjheapjklhgaa
open Go.RowKit

def bankOk (G : Geo) (x : Bool × Int) : Bool := inB x.2 0 (G.r - 1) && (x.1 || x.2 == 0)
def lenR (G : Geo) (D : RkD) : Bool := (D.banks.length : Int) == bankN G
def allB (G : Geo) (bs : List (Bool × Int)) : Bool := bs.all (bankOk G)
def powB (D : RkD) : Bool := D.p != 2 || (openB D.banks).isEmpty
def rankOk (G : Geo) (D : RkD) : Bool := gOk G && lenR G D && inB D.p 0 2 && allB G D.banks && powB D
theorem rankOk_geo {G : Geo} {D : RkD} (h : gOk G = false) : rankOk G D = false := by unfold rankOk; rw [h]; rfl
theorem rankOk_len {G : Geo} {D : RkD} (h : lenR G D = false) : rankOk G D = false := by unfold rankOk; rw [h]; simp
theorem rankOk_pow {G : Geo} {D : RkD} (h : inB D.p 0 2 = false) : rankOk G D = false := by unfold rankOk; rw [h]; simp
theorem rankOk_all {G : Geo} {D : RkD} (h : allB G D.banks = false) : rankOk G D = false := by unfold rankOk; rw [h]; simp
theorem rankOk_yes {G : Geo} {D : RkD} (h1 : gOk G = true) (h2 : lenR G D = true) (h3 : inB D.p 0 2 = true) (h4 : allB G D.banks = true) : rankOk G D = powB D := by unfold rankOk; rw [h1, h2, h3, h4]; rfl
theorem rankOk_powB {G : Geo} {D : RkD} (h : powB D = false) : rankOk G D = false := by unfold rankOk; rw [h]; simp
theorem allB_take {G : Geo} {bs : List (Bool × Int)} {k : Nat} {x : Bool × Int} (hx : bs[k]? = some x) (h : allB G (bs.take k) = true) (h1 : bankOk G x = true) : allB G (bs.take (k + 1)) = true := by
  unfold allB at *
  rw [take_snoc hx, List.all_append, h]; simp [h1]
theorem allB_no {G : Geo} {bs : List (Bool × Int)} {k : Nat} {x : Bool × Int} (hx : bs[k]? = some x) (h1 : bankOk G x = false) : allB G bs = false := by
  unfold allB
  rw [List.all_eq_false]
  exact ⟨x, List.mem_of_getElem? hx, by simp [h1]⟩
theorem openFrom_mem (es : List (Bool × Int)) (i : Int) {x : Bool × Int} (hx : x ∈ es) (ho : x.1 = true) : openFrom i es ≠ [] := by
  induction es generalizing i with
  | nil => cases hx
  | cons y ys ih =>
    unfold openFrom
    split
    · simp
    · rename_i hy
      rcases List.mem_cons.1 hx with h | h
      · subst h; exact absurd ho hy
      · exact ih (i + 1) h
theorem openFrom_none (es : List (Bool × Int)) (i : Int) (h : ∀ x ∈ es, x.1 = false) : openFrom i es = [] := by
  induction es generalizing i with
  | nil => rfl
  | cons y ys ih =>
    unfold openFrom
    rw [if_neg (by simp [h y (by simp)])]
    exact ih (i + 1) (fun x hx => h x (by simp [hx]))
theorem lenR_eq (G : Geo) {R : RankE} (h : R.n = R.es.length) : lenR G R.d = !((R.n : Int) != bankN G) := by
  show ((R.es.length : Int) == bankN G) = _
  rw [← h]; simp [bne]

set_option maxRecDepth 100000 in
theorem implRankOk_no (G : Geo) (R : RankE) (w : World) (hg : gOk G = false) :
    Calls Try.prog 38 #[.agg #[.int .i64 G.a, .int .i64 G.b, .int .i64 G.r, .int .i64 G.c], .agg #[.slice R.a R.n R.c, .int .i64 R.p]] w fun e w' => e = .returned (.bool false) ∧ Below w.heap.size w w' := by
  have hb := bankN_no hg
  go_enter Try.func38, Try.ntmps38
  go_wp2_with fail
  refine wp_world (fun W hw => ?_)
  have X : BoxG W w.heap.size G := by rw [hw.out]; exact (BoxG.new _ _ _).old (below_alloc _ _)
  have B : Below w.heap.size w W := by rw [hw.out]; exact below_alloc2 _ _ _
  obtain ⟨hlt, c0, c1, c2, c3⟩ := X
  have hov := over_cell W
  clear hw
  refine wp_region_over (by kernel_rfl) (by kernel_rfl) ?_
  repeat (go_big_quiet_step ((first | (go_at_call 78; exact calls_over (implGeometryOk_of hg)) | (go_at_call 79; exact calls_over (implBankCount_any _ _)))))
  refine wpQuiet_nil ?_
  intro W2 B2
  go_wp2_with fail
  go_ret
  exact ⟨rfl, below_step B B2 (Nat.le_refl _)⟩
set_option maxRecDepth 100000 in
theorem implRankOk_yes (G : Geo) (R : RankE) (w : World) (hR : RankR w R) (hn : R.n ≤ 1048576) (hg : gOk G = true) :
    Calls Try.prog 38 #[.agg #[.int .i64 G.a, .int .i64 G.b, .int .i64 G.r, .int .i64 G.c], .agg #[.slice R.a R.n R.c, .int .i64 R.p]] w fun e w' => e = .returned (.bool (rankOk G R.d)) ∧ Below w.heap.size w w' := by
  have hle := hid (lenR_eq G hR.len)
  have HL := hid hR.len
  have HX := hid hR
  have HGO := hid hg
  clear hR
  obtain ⟨sa, hsa⟩ : ∃ sa, R.a = sa := ⟨_, rfl⟩
  have HSA := hid hsa
  obtain ⟨sp, hsp⟩ : ∃ sp, R.p = sp := ⟨_, rfl⟩
  have HSP := hid hsp
  rw [hsa, hsp]
  clear hsa hsp
  go_enter Try.func38, Try.ntmps38
  go_wp2_with fail
  refine wp_world (fun W hw => ?_)
  have HG : Hid (BoxG W w.heap.size G) := by rw [hw.out]; exact hid ((BoxG.new _ _ _).old (below_alloc _ _))
  have HK : Hid (BoxK2 W (w.heap.size + 1) R) := by rw [hw.out, ← HSA.out, ← HSP.out]; exact hid (BoxK2.new_ (w.alloc _) _ _ (by simp))
  have HB : Hid (Below w.heap.size w W) := by rw [hw.out]; exact hid (below_alloc2 _ _ _)
  clear hw
  obtain ⟨hlt, c0, c1, c2, c3⟩ := HG.out
  obtain ⟨hlt', d0, d1⟩ := HK.out
  rw [HSA.out] at d0
  rw [HSP.out] at d1
  have hov := over_cell W
  cases k0 : ((R.n : Int) != bankN G) with
  | true =>
    have HF := hid (rankOk_len (G := G) (D := R.d) (by rw [hle.out, k0]; rfl))
    refine wp_region_over (by kernel_rfl) (by kernel_rfl) ?_
    repeat (go_big_quiet_step ((first | (go_at_call 78; exact calls_over (implGeometryOk_of hg)) | (go_at_call 79; exact calls_over (implBankCount_any _ _)))))
    refine wpQuiet_nil ?_
    intro W2 B2
    go_wp2_with fail
    go_ret
    exact ⟨by rw [HF.out]; rfl, below_step HB.out B2 (Nat.le_refl _)⟩
  | false =>
    have HLO := hid (show lenR G R.d = true by rw [hle.out, k0]; rfl)
    cases k1 : inB sp 0 2 with
    | false =>
      have HF := hid (rankOk_pow (G := G) (D := R.d) (by show inB R.p 0 2 = false; rw [HSP.out, k1]))
      refine wp_region_over (by kernel_rfl) (by kernel_rfl) ?_
      repeat (go_big_quiet_step ((first | (go_at_call 78; exact calls_over (implGeometryOk_of hg)) | (go_at_call 79; exact calls_over (implBankCount_any _ _)) | (go_at_call 81; with_reducible exact calls_over_same (between_of k1)))))
      refine wpQuiet_nil ?_
      intro W2 B2
      go_wp2_with fail
      go_ret
      exact ⟨by rw [HF.out]; rfl, below_step HB.out B2 (Nat.le_refl _)⟩
    | true =>
      have HPO := hid (show inB R.d.p 0 2 = true by show inB R.p 0 2 = true; rw [HSP.out, k1])
      refine wp_region_over (by kernel_rfl) (by kernel_rfl) ?_
      repeat (go_big_quiet_step ((first | (go_at_call 78; exact calls_over (implGeometryOk_of hg)) | (go_at_call 79; exact calls_over (implBankCount_any _ _)) | (go_at_call 81; with_reducible exact calls_over_same (between_of k1)))))
      refine wpQuiet_nil ?_
      intro W2 B2
      have HG2 := hid (HG.out.old B2)
      have HK2 := hid (HK.out.old B2)
      have HB2 := hid (below_step HB.out B2 (Nat.le_refl _))
      clear hov c0 c1 c2 c3 d0 d1 hlt hlt' HB HG HK k0 k1 hle
      obtain ⟨hlt', d0, d1⟩ := HK2.out
      rw [HSA.out] at d0
      obtain ⟨_, _, ⟨r0, r1⟩, _⟩ := gOk_iff.1 hg
      have er : IntKind.i64.wrap (G.r - 1) = G.r - 1 := IntWalk.i64_in _ (by omega)
      clear hg
      go_wp2_with fail
      clear d0 d1 hlt'
      go_loopw [27] (fun i wr => ∃ k : Nat, k ≤ R.n ∧ i = .int .i64 k ∧ Hid (allB G (R.es.take k) = true) ∧ Hid (Below W2.heap.size W2 wr)) (fun i _ => R.n - (intOf i).toNat)
      case atStart => exact ⟨0, Nat.zero_le _, rfl, hid rfl, hid (Below.refl _ _)⟩
      case round =>
        obtain ⟨k, hk, rfl, HA, HB⟩ := hrel
        have HB3 := hid (below_step HB2.out HB.out (Nat.le_refl _))
        by_cases hlk : k < R.n
        · obtain ⟨e, b1, o1, he, ha, hb1, hc0, hc1⟩ := (HX.out.old HB3.out).at_ hlk
          have HE := hid he
          obtain ⟨eo, ev⟩ := e
          rw [HSA.out] at ha
          subst ha
          obtain ⟨_, _, _, g2, _⟩ := HG2.out.old HB.out
          have HB4 := hid (below_step HB.out (below_alloc wr (.cells #[.bool eo, .int .i64 ev] 69)) (Nat.le_refl _))
          have HB5 := hid (below_step HB3.out (below_alloc wr (.cells #[.bool eo, .int .i64 ev] 69)) (Nat.le_refl _))
          clear he
          cases k2 : inB ev 0 (G.r - 1) with
          | false =>
            have HF := hid (rankOk_all (D := R.d) (allB_no (G := G) HE.out (by show (inB ev 0 (G.r - 1) && _) = false; rw [k2]; rfl)))
            go_wp2_with (go_at_call 81; with_reducible refine (between_of k2).mono ?_; rintro e w' ⟨rfl, rfl⟩)
            go_ret
            exact ⟨by rw [HF.out]; rfl, HB5.out⟩
          | true =>
            cases k3 : (ev != 0) with
            | false =>
              have HA2 := hid (allB_take (G := G) HE.out HA.out (by show (inB ev 0 (G.r - 1) && (eo || ev == 0)) = true; rw [k2]; simp at k3; simp [k3]))
              cases eo
              all_goals
                go_wp2_with (go_at_call 81; with_reducible refine (between_of k2).mono ?_; rintro e w' ⟨rfl, rfl⟩)
                go_roundw
                case rel => exact ⟨k + 1, by omega, by go_num, HA2, HB4⟩
                case measure => simp [intOf]; omega
            | true =>
              cases eo with
              | true =>
                have HA2 := hid (allB_take (G := G) HE.out HA.out (by show (inB ev 0 (G.r - 1) && (true || ev == 0)) = true; rw [k2]; rfl))
                go_wp2_with (go_at_call 81; with_reducible refine (between_of k2).mono ?_; rintro e w' ⟨rfl, rfl⟩)
                go_roundw
                case rel => exact ⟨k + 1, by omega, by go_num, HA2, HB4⟩
                case measure => simp [intOf]; omega
              | false =>
                have HF := hid (rankOk_all (D := R.d) (allB_no (G := G) HE.out (by show (inB ev 0 (G.r - 1) && (false || ev == 0)) = false; simp at k3; simp [k3])))
                go_wp2_with (go_at_call 81; with_reducible refine (between_of k2).mono ?_; rintro e w' ⟨rfl, rfl⟩)
                go_ret
                exact ⟨by rw [HF.out]; rfl, HB5.out⟩
        · have hkn : k = R.n := by omega
          have hall : allB G R.d.banks = true := by
            have := HA.out
            rw [List.take_of_length_le (by rw [← HL.out]; omega)] at this
            exact this
          have HF := hid (rankOk_yes HGO.out HLO.out HPO.out hall)
          obtain ⟨_, d0, d1⟩ := HK2.out.old HB.out
          rw [HSA.out] at d0
          rw [HSP.out] at d1
          clear hall HA
          cases k2 : (sp != 2) with
          | true =>
            have HP := hid (show powB R.d = true by show (R.p != 2 || _) = true; rw [HSP.out, k2]; rfl)
            go_wp2_with fail
            go_ret
            exact ⟨by rw [HF.out, HP.out]; rfl, HB3.out⟩
          | false =>
            have HP := hid (show powB R.d = (openB R.es).isEmpty by show (R.p != 2 || _) = _; rw [HSP.out, k2]; rfl)
            clear hkn
            go_wp2_with fail
            refine (calls_args (by rw [HSA.out, HSP.out]) (implOpenBanks_any R _ (HX.out.old HB3.out) hn)).mono ?_
            rintro e w3 ⟨a', m', c', rfl, O, B⟩
            have HB4 := hid (below_step HB3.out B (Nat.le_refl _))
            have hm : (openB R.es).isEmpty = decide (m' = 0) := by
              rw [O.length]
              cases openB R.es <;> simp
            have HM := hid hm
            clear O B hm
            cases k4 : ((m' : Int) == 0)
            all_goals
              go_wp2_with fail
              go_ret
              exact ⟨by rw [HF.out, HP.out, HM.out]; simp at k4; simp [k4], HB4.out⟩
set_option maxRecDepth 100000 in
theorem specRankOk_no (G : Geo) (R : RankE) (w : World) (hg : gOk G = false) :
    Calls Try.prog 58 #[.agg #[.int .i64 G.a, .int .i64 G.b, .int .i64 G.r, .int .i64 G.c], .agg #[.slice R.a R.n R.c, .int .i64 R.p]] w fun e w' => e = .returned (.bool false) ∧ Below w.heap.size w w' := by
  have hb := bankN_no hg
  go_enter Try.func58, Try.ntmps58
  go_wp2_with fail
  refine wp_world (fun W hw => ?_)
  have X : BoxG W w.heap.size G := by rw [hw.out]; exact (BoxG.new _ _ _).old (below_alloc _ _)
  have B : Below w.heap.size w W := by rw [hw.out]; exact below_alloc2 _ _ _
  obtain ⟨hlt, c0, c1, c2, c3⟩ := X
  have hov := over_cell W
  clear hw
  refine wp_region_over (by kernel_rfl) (by kernel_rfl) ?_
  repeat (go_big_quiet_step ((first | (go_at_call 75; exact calls_over (specGeometryOk_of hg)) | (go_at_call 65; exact calls_over (specBankCount_any _ _)))))
  refine wpQuiet_nil ?_
  intro W2 B2
  go_wp2_with fail
  go_ret
  exact ⟨rfl, below_step B B2 (Nat.le_refl _)⟩
set_option maxRecDepth 100000 in
theorem specRankOk_yes (G : Geo) (R : RankE) (w : World) (hR : RankR w R) (hn : R.n ≤ 1048576) (hg : gOk G = true) :
    Calls Try.prog 58 #[.agg #[.int .i64 G.a, .int .i64 G.b, .int .i64 G.r, .int .i64 G.c], .agg #[.slice R.a R.n R.c, .int .i64 R.p]] w fun e w' => e = .returned (.bool (rankOk G R.d)) ∧ Below w.heap.size w w' := by
  have hle := hid (lenR_eq G hR.len)
  have HL := hid hR.len
  have HX := hid hR
  have HGO := hid hg
  clear hR
  obtain ⟨sa, hsa⟩ : ∃ sa, R.a = sa := ⟨_, rfl⟩
  have HSA := hid hsa
  obtain ⟨sp, hsp⟩ : ∃ sp, R.p = sp := ⟨_, rfl⟩
  have HSP := hid hsp
  rw [hsa, hsp]
  clear hsa hsp
  go_enter Try.func58, Try.ntmps58
  go_wp2_with fail
  refine wp_world (fun W hw => ?_)
  have HG : Hid (BoxG W w.heap.size G) := by rw [hw.out]; exact hid ((BoxG.new _ _ _).old (below_alloc _ _))
  have HK : Hid (BoxK2 W (w.heap.size + 1) R) := by rw [hw.out, ← HSA.out, ← HSP.out]; exact hid (BoxK2.new_ (w.alloc _) _ _ (by simp))
  have HB : Hid (Below w.heap.size w W) := by rw [hw.out]; exact hid (below_alloc2 _ _ _)
  clear hw
  obtain ⟨hlt, c0, c1, c2, c3⟩ := HG.out
  obtain ⟨hlt', d0, d1⟩ := HK.out
  rw [HSA.out] at d0
  rw [HSP.out] at d1
  have hov := over_cell W
  cases k0 : ((R.n : Int) != bankN G) with
  | true =>
    have HF := hid (rankOk_len (G := G) (D := R.d) (by rw [hle.out, k0]; rfl))
    refine wp_region_over (by kernel_rfl) (by kernel_rfl) ?_
    repeat (go_big_quiet_step ((first | (go_at_call 75; exact calls_over (specGeometryOk_of hg)) | (go_at_call 65; exact calls_over (specBankCount_any _ _)))))
    refine wpQuiet_nil ?_
    intro W2 B2
    go_wp2_with fail
    go_ret
    exact ⟨by rw [HF.out]; rfl, below_step HB.out B2 (Nat.le_refl _)⟩
  | false =>
    have HLO := hid (show lenR G R.d = true by rw [hle.out, k0]; rfl)
    cases k1 : inB sp 0 2 with
    | false =>
      have HF := hid (rankOk_pow (G := G) (D := R.d) (by show inB R.p 0 2 = false; rw [HSP.out, k1]))
      refine wp_region_over (by kernel_rfl) (by kernel_rfl) ?_
      repeat (go_big_quiet_step ((first | (go_at_call 75; exact calls_over (specGeometryOk_of hg)) | (go_at_call 65; exact calls_over (specBankCount_any _ _)) | (go_at_call 89; with_reducible exact calls_over_same (l01In_of k1)))))
      refine wpQuiet_nil ?_
      intro W2 B2
      go_wp2_with fail
      go_ret
      exact ⟨by rw [HF.out]; rfl, below_step HB.out B2 (Nat.le_refl _)⟩
    | true =>
      have HPO := hid (show inB R.d.p 0 2 = true by show inB R.p 0 2 = true; rw [HSP.out, k1])
      refine wp_region_over (by kernel_rfl) (by kernel_rfl) ?_
      repeat (go_big_quiet_step ((first | (go_at_call 75; exact calls_over (specGeometryOk_of hg)) | (go_at_call 65; exact calls_over (specBankCount_any _ _)) | (go_at_call 89; with_reducible exact calls_over_same (l01In_of k1)))))
      refine wpQuiet_nil ?_
      intro W2 B2
      have HG2 := hid (HG.out.old B2)
      have HK2 := hid (HK.out.old B2)
      have HB2 := hid (below_step HB.out B2 (Nat.le_refl _))
      clear hov c0 c1 c2 c3 d0 d1 hlt hlt' HB HG HK k0 k1 hle
      obtain ⟨hlt', d0, d1⟩ := HK2.out
      rw [HSA.out] at d0
      obtain ⟨_, _, ⟨r0, r1⟩, _⟩ := gOk_iff.1 hg
      have er : IntKind.i64.wrap (G.r - 1) = G.r - 1 := IntWalk.i64_in _ (by omega)
      clear hg
      clear d0 d1 hlt'
      go_wp2_with fail
      go_loopw [5] (fun i wr => ∃ k : Nat, k ≤ R.n ∧ i = .int .i64 k ∧ Hid (allB G (R.es.take k) = true) ∧ Hid (∀ x ∈ R.es.take k, sp = 2 → x.1 = false) ∧ Hid (Below W2.heap.size W2 wr)) (fun i _ => R.n - (intOf i).toNat)
      case atStart => exact ⟨0, Nat.zero_le _, rfl, hid rfl, hid (fun x hx => by cases hx), hid (Below.refl _ _)⟩
      case round =>
        obtain ⟨k, hk, rfl, HA, HP, HB⟩ := hrel
        have HB3 := hid (below_step HB2.out HB.out (Nat.le_refl _))
        obtain ⟨_, d0, d1⟩ := HK2.out.old HB.out
        rw [HSA.out] at d0
        rw [HSP.out] at d1
        by_cases hlk : k < R.n
        · obtain ⟨e, b1, o1, he, ha, hb1, hc0, hc1⟩ := (HX.out.old HB3.out).at_ hlk
          have HE := hid he
          obtain ⟨eo, ev⟩ := e
          rw [HSA.out] at ha
          subst ha
          obtain ⟨_, _, _, g2, _⟩ := HG2.out.old HB.out
          have HB4 := hid (below_step HB.out (below_alloc wr (.cells #[.bool eo, .int .i64 ev] 69)) (Nat.le_refl _))
          have HB5 := hid (below_step HB3.out (below_alloc wr (.cells #[.bool eo, .int .i64 ev] 69)) (Nat.le_refl _))
          clear he
          cases k2 : inB ev 0 (G.r - 1) with
          | false =>
            have HF := hid (rankOk_all (D := R.d) (allB_no (G := G) HE.out (by show (inB ev 0 (G.r - 1) && _) = false; rw [k2]; rfl)))
            go_wp2_with (go_at_call 89; with_reducible refine (l01In_of k2).mono ?_; rintro e w' ⟨rfl, rfl⟩)
            go_ret
            exact ⟨by rw [HF.out]; rfl, HB5.out⟩
          | true =>
            cases eo with
            | false =>
              have HP2 := hid (show ∀ x ∈ R.es.take (k + 1), sp = 2 → x.1 = false by
                intro x hx h2
                rw [take_snoc HE.out] at hx
                rcases List.mem_append.1 hx with h | h
                · exact HP.out x h h2
                · simp at h; subst h; rfl)
              cases k3 : (ev != 0) with
              | false =>
                have HA2 := hid (allB_take (G := G) HE.out HA.out (by show (inB ev 0 (G.r - 1) && (false || ev == 0)) = true; rw [k2]; simp at k3; simp [k3]))
                go_wp2_with (go_at_call 89; with_reducible refine (l01In_of k2).mono ?_; rintro e w' ⟨rfl, rfl⟩)
                go_roundw
                case rel => exact ⟨k + 1, by omega, by go_num, HA2, HP2, HB4⟩
                case measure => simp [intOf]; omega
              | true =>
                have HF := hid (rankOk_all (D := R.d) (allB_no (G := G) HE.out (by show (inB ev 0 (G.r - 1) && (false || ev == 0)) = false; simp at k3; simp [k3])))
                go_wp2_with (go_at_call 89; with_reducible refine (l01In_of k2).mono ?_; rintro e w' ⟨rfl, rfl⟩)
                go_ret
                exact ⟨by rw [HF.out]; rfl, HB5.out⟩
            | true =>
              have HA2 := hid (allB_take (G := G) HE.out HA.out (by show (inB ev 0 (G.r - 1) && (true || ev == 0)) = true; rw [k2]; rfl))
              cases k4 : (sp == 2) with
              | false =>
                have HP2 := hid (show ∀ x ∈ R.es.take (k + 1), sp = 2 → x.1 = false by
                  intro x hx h2
                  rw [h2] at k4; cases k4)
                go_wp2_with (go_at_call 89; with_reducible refine (l01In_of k2).mono ?_; rintro e w' ⟨rfl, rfl⟩)
                go_roundw
                case rel => exact ⟨k + 1, by omega, by go_num, HA2, HP2, HB4⟩
                case measure => simp [intOf]; omega
              | true =>
                have HF := hid (rankOk_powB (G := G) (D := R.d) (by
                  show (R.p != 2 || (openB R.es).isEmpty) = false
                  have h1 : R.p = 2 := by rw [HSP.out]; simpa using k4
                  have h2 := openFrom_mem R.es 0 (List.mem_of_getElem? HE.out) rfl
                  rw [h1]
                  unfold openB
                  cases hq : openFrom 0 R.es with
                  | nil => exact absurd hq h2
                  | cons _ _ => rfl))
                go_wp2_with (go_at_call 89; with_reducible refine (l01In_of k2).mono ?_; rintro e w' ⟨rfl, rfl⟩)
                go_ret
                exact ⟨by rw [HF.out]; rfl, HB5.out⟩
        · have hkn : k = R.n := by omega
          have htk : R.es.take k = R.es := List.take_of_length_le (by rw [← HL.out]; omega)
          have hall : allB G R.d.banks = true := by
            have := HA.out
            rw [htk] at this
            exact this
          have hp : powB R.d = true := by
            show (R.p != 2 || (openB R.es).isEmpty) = true
            by_cases h2 : R.p = 2
            · have := HP.out
              rw [htk] at this
              have := openFrom_none R.es 0 (fun x hx => this x hx (HSP.out.symm.trans h2))
              unfold openB
              rw [this, h2]; rfl
            · simp [h2]
          have HF := hid ((rankOk_yes HGO.out HLO.out HPO.out hall).trans hp)
          clear hall HA hp htk hkn
          go_wp2_with fail
          go_ret
          exact ⟨by rw [HF.out]; rfl, HB3.out⟩
theorem implRankOk_any (G : Geo) (R : RankE) (w : World) (hR : RankR w R) (hn : R.n ≤ 1048576) :
    Calls Try.prog 38 #[.agg #[.int .i64 G.a, .int .i64 G.b, .int .i64 G.r, .int .i64 G.c], .agg #[.slice R.a R.n R.c, .int .i64 R.p]] w fun e w' => e = .returned (.bool (rankOk G R.d)) ∧ Below w.heap.size w w' := by
  cases hg : gOk G with
  | true => exact implRankOk_yes G R w hR hn hg
  | false => rw [rankOk_geo hg]; exact implRankOk_no G R w hg
theorem specRankOk_any (G : Geo) (R : RankE) (w : World) (hR : RankR w R) (hn : R.n ≤ 1048576) :
    Calls Try.prog 58 #[.agg #[.int .i64 G.a, .int .i64 G.b, .int .i64 G.r, .int .i64 G.c], .agg #[.slice R.a R.n R.c, .int .i64 R.p]] w fun e w' => e = .returned (.bool (rankOk G R.d)) ∧ Below w.heap.size w w' := by
  cases hg : gOk G with
  | true => exact specRankOk_yes G R w hR hn hg
  | false => rw [rankOk_geo hg]; exact specRankOk_no G R w hg
end Go.Proofs.Ytggjheapjklhgaa
