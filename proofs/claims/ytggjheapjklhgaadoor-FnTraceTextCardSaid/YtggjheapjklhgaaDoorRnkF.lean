/- Ranks: what the program's and the reference's functions return. -/
import Derived.Test.YtggjheapjklhgaaDoorRankW
import Derived.Test.YtggjheapjklhgaaDoorInv
import Derived.Test.YtggjheapjklhgaaDoorCmdW
namespace Go.Proofs.YtggjheapjklhgaaDoor
open Go.RowKit

/-- The cells of a boxed rank. -/
structure BoxK2 (w : World) (g : Nat) (R : RankE) : Prop where
  lt : g < w.heap.size
  c0 : w.cell? ⟨g, 0, none⟩ = some (.slice R.a R.n R.c)
  c1 : w.cell? ⟨g, 1, none⟩ = some (.int .i64 R.p)
theorem BoxK2.new_ (w : World) (t : TypeId) (R : RankE) {g : Nat} (h : w.heap.size = g) : BoxK2 (w.alloc (.cells #[.slice R.a R.n R.c, .int .i64 R.p] t)) g R := by
  subst h
  have h := box_at w [.slice R.a R.n R.c, .int .i64 R.p] t
  exact ⟨by simp, h 0, h 1⟩
theorem BoxK2.below {w w' : World} {B g : Nat} {R : RankE} (h : BoxK2 w g R) (hb : Below B w w') (hg : g < B) : BoxK2 w' g R :=
  ⟨Nat.lt_of_lt_of_le h.lt hb.size, (hb.cell (p := ⟨g, 0, none⟩) hg).trans h.c0, (hb.cell (p := ⟨g, 1, none⟩) hg).trans h.c1⟩
theorem BoxK2.old {w w' : World} {g : Nat} {R : RankE} (h : BoxK2 w g R) (hb : Below w.heap.size w w') : BoxK2 w' g R := h.below hb h.lt
theorem BoxK2.keeps {S : Nat → Prop} {w w' : World} {g : Nat} {R : RankE} (h : BoxK2 w g R) (hk : Keeps S w w') (hs : ¬ S g) : BoxK2 w' g R :=
  ⟨Nat.lt_of_lt_of_le h.lt hk.size, (hk.cell h.lt hs 0).trans h.c0, (hk.cell h.lt hs 1).trans h.c1⟩
/-- The row of an open bank. -/
def rowOf (D : RkD) (b : Int) : Int := if inB b 0 (D.banks.length - 1) = true then (match D.banks[b.toNat]? with | some x => if x.1 = true then x.2 else -1 | none => -1) else -1
theorem rowOf_out {D : RkD} {b : Int} (h : inB b 0 (D.banks.length - 1) = false) : rowOf D b = -1 := by unfold rowOf; rw [if_neg (by simp [h])]
theorem rowOf_in {D : RkD} {k : Nat} {x : Bool × Int} (h : D.banks[k]? = some x) : rowOf D k = if x.1 = true then x.2 else -1 := by
  have hk := (List.getElem?_eq_some_iff.1 h).1
  unfold rowOf
  rw [if_pos (inB_iff.2 (by omega)), Int.toNat_natCast, h]
/-- The numbers of the open banks, counted from i on. -/
def openFrom (i : Int) : List (Bool × Int) → List Int
  | [] => []
  | x :: xs => if x.1 = true then i :: openFrom (i + 1) xs else openFrom (i + 1) xs
def openB (es : List (Bool × Int)) : List Int := openFrom 0 es
theorem openFrom_snoc (es : List (Bool × Int)) (x : Bool × Int) (i : Int) : openFrom i (es ++ [x]) = openFrom i es ++ (if x.1 = true then [i + es.length] else []) := by
  induction es generalizing i with
  | nil => simp [openFrom]
  | cons y ys ih =>
    simp only [List.cons_append, openFrom, ih]
    have e : i + 1 + (ys.length : Int) = i + (((y :: ys).length : Nat) : Int) := by simp; omega
    rw [e]
    split <;> simp
theorem openFrom_len (es : List (Bool × Int)) (i : Int) : (openFrom i es).length ≤ es.length := by
  induction es generalizing i with
  | nil => simp [openFrom]
  | cons y ys ih =>
    simp only [openFrom]
    have := ih (i + 1)
    split <;> simp <;> omega
theorem openB_at {es : List (Bool × Int)} {k : Nat} {x : Bool × Int} (h : es[k]? = some x) : openB (es.take (k + 1)) = openB (es.take k) ++ (if x.1 = true then [(k : Int)] else []) := by
  have hk := (List.getElem?_eq_some_iff.1 h).1
  unfold openB
  rw [take_snoc h, openFrom_snoc, length_take_of (by omega)]
  simp
theorem OwnS.ofEmpty {w : World} {B g : Nat} (h : IRow w g 0 0 []) (hB : B ≤ g) : OwnS w B (some ⟨g, 0, none⟩) 0 0 [] := OwnS.of_row h hB
theorem specOpenBanks_any (R : RankE) (w : World) (hR : RankR w R) (hn : R.n ≤ 1048576) :
    Calls Tryd.prog 52 #[.agg #[.slice R.a R.n R.c, .int .i64 R.p]] w fun e w' => ∃ a m c, e = .returned (.slice a m c) ∧ OwnS w' w.heap.size a m c (openB R.es) ∧ Below w.heap.size w w' := by
  have HX := hid hR
  have HL := hid hR.len
  clear hR
  go_enter Tryd.func52, Tryd.ntmps52
  go_wp2
  refine wp_world (fun W hw => ?_)
  have HE : Hid (IRow W (w.heap.size + 1) 0 0 []) := by rw [hw.out]; have := IRow.empty (w.alloc (.cells #[.slice R.a R.n R.c, .int .i64 R.p] 75)); simp only [World.size_alloc] at this; exact hid this
  have HB : Hid (Below w.heap.size w W) := by rw [hw.out]; exact hid (below_alloc2 _ _ _)
  have HK : Hid (BoxK2 W w.heap.size R) := by rw [hw.out]; exact hid ((BoxK2.new_ w 75 R rfl).old (below_alloc _ _))
  clear hw
  go_loopw [3, 4] (fun v i wr => ∃ (k m cap g : Nat) (xs : List Int), k ≤ R.n ∧ i = .int .i64 k ∧ v = .slice (some ⟨g, 0, none⟩) m cap ∧ w.heap.size < g ∧ m ≤ k ∧ Hid (xs = openB (R.es.take k)) ∧ Hid (IRow wr g m cap xs) ∧ Hid (Below w.heap.size w wr) ∧ Hid (BoxK2 wr w.heap.size R)) (fun _ i _ => R.n - (intOf i).toNat)
  case atStart => exact ⟨0, 0, 0, w.heap.size + 1, [], Nat.zero_le _, rfl, rfl, by omega, Nat.le_refl _, hid rfl, HE, HB, HK⟩
  case round =>
    clear HE HB HK
    obtain ⟨k, m, cap, g, xs, hk, rfl, rfl, hg, hm, HXS, HO, HB, HK⟩ := hrel
    obtain ⟨x0, x1, x2⟩ := HK.out
    by_cases hlt : k < R.n
    · obtain ⟨e, b1, o1, he, ha, hb1, hc0, hc1⟩ := (HX.out.old HB.out).at_ hlt
      have HS := hid (openB_at he)
      obtain ⟨eo, er⟩ := e
      rw [ha] at x1
      clear he ha
      cases eo with
      | false =>
        go_wp2
        go_roundw
        case rel => exact ⟨k + 1, m, cap, g, xs, by omega, by go_num, rfl, hg, by omega, hid (by rw [HS.out, HXS.out]; simp), HO, HB, HK⟩
        case measure => simp [intOf]; omega
      | true =>
        go_wp2_with (at_builtin; refine wpList_append_int rfl _ _ rfl _ (w.heap.size + 1) m _ xs (HO.out.rebase hg) rfl (k : Int) rfl (by omega) (by omega) ?_; intro g' cap' w3 hg' hrow hbel)
        have HO3 := hid hrow
        have HB3 := hid (HB.out.trans (hbel.mono (by omega)))
        have HK3 := hid (HK.out.below hbel (by omega))
        clear hrow hbel HO HB HK
        go_roundw
        case rel => exact ⟨k + 1, m + 1, cap', g', _, by omega, by go_num, rfl, hg', by omega, hid (by rw [HS.out, HXS.out]; simp), HO3, HB3, HK3⟩
        case measure => simp [intOf]; omega
    · have hkn : k = R.n := by omega
      have hv : xs = openB R.es := by rw [HXS.out, List.take_of_length_le (by rw [← HL.out]; omega)]
      have HV := hid hv
      clear hkn hv
      go_wp2
      go_ret
      exact ⟨_, _, _, rfl, by rw [← HV.out]; exact OwnS.of_row HO.out (by omega), HB.out⟩
end Go.Proofs.YtggjheapjklhgaaDoor

/- RankOk: what the program's and the reference's return. -/
namespace Go.Proofs.YtggjheapjklhgaaDoor
open Go.RowKit

def bankOk (G : Geo) (x : Bool × Int) : Bool := inB x.2 0 (G.r - 1) && (x.1 || x.2 == 0)
def lenR (G : Geo) (D : RkD) : Bool := (D.banks.length : Int) == bankN G
def allB (G : Geo) (bs : List (Bool × Int)) : Bool := bs.all (bankOk G)
def powB (D : RkD) : Bool := D.p != 2 || (openB D.banks).isEmpty
def rankOk (G : Geo) (D : RkD) : Bool := gOk G && lenR G D && inB D.p 0 2 && allB G D.banks && powB D
theorem rankOk_geo {G : Geo} {D : RkD} (h : gOk G = false) : rankOk G D = false := by unfold rankOk; rw [h]; rfl
theorem rankOk_len {G : Geo} {D : RkD} (h : lenR G D = false) : rankOk G D = false := by unfold rankOk; rw [h]; simp
theorem rankOk_pow {G : Geo} {D : RkD} (h : inB D.p 0 2 = false) : rankOk G D = false := by unfold rankOk; rw [h]; simp
theorem rankOk_all {G : Geo} {D : RkD} (h : allB G D.banks = false) : rankOk G D = false := by unfold rankOk; rw [h]; simp
theorem rankOk_yes {G : Geo} {D : RkD} (h1 : gOk G = true) (h2 : lenR G D = true) (h3 : inB D.p 0 2 = true) (h4 : allB G D.banks = true) : rankOk G D = powB D := by unfold rankOk; rw [h1, h2, h3, h4]; rfl
theorem rankOk_powB {G : Geo} {D : RkD} (h : powB D = false) : rankOk G D = false := by unfold rankOk; rw [h]; simp
theorem allB_take {G : Geo} {bs : List (Bool × Int)} {k : Nat} {x : Bool × Int} (hx : bs[k]? = some x) (h : allB G (bs.take k) = true) (h1 : bankOk G x = true) : allB G (bs.take (k + 1)) = true := by
  unfold allB at *
  rw [take_snoc hx, List.all_append, h]; simp [h1]
theorem allB_no {G : Geo} {bs : List (Bool × Int)} {k : Nat} {x : Bool × Int} (hx : bs[k]? = some x) (h1 : bankOk G x = false) : allB G bs = false := by
  unfold allB
  rw [List.all_eq_false]
  exact ⟨x, List.mem_of_getElem? hx, by simp [h1]⟩
theorem openFrom_mem (es : List (Bool × Int)) (i : Int) {x : Bool × Int} (hx : x ∈ es) (ho : x.1 = true) : openFrom i es ≠ [] := by
  induction es generalizing i with
  | nil => cases hx
  | cons y ys ih =>
    unfold openFrom
    split
    · simp
    · rename_i hy
      rcases List.mem_cons.1 hx with h | h
      · subst h; exact absurd ho hy
      · exact ih (i + 1) h
theorem openFrom_none (es : List (Bool × Int)) (i : Int) (h : ∀ x ∈ es, x.1 = false) : openFrom i es = [] := by
  induction es generalizing i with
  | nil => rfl
  | cons y ys ih =>
    unfold openFrom
    rw [if_neg (by simp [h y (by simp)])]
    exact ih (i + 1) (fun x hx => h x (by simp [hx]))
theorem lenR_eq (G : Geo) {R : RankE} (h : R.n = R.es.length) : lenR G R.d = !((R.n : Int) != bankN G) := by
  show ((R.es.length : Int) == bankN G) = _
  rw [← h]; simp [bne]

set_option maxRecDepth 100000 in
theorem specRankOk_no (G : Geo) (R : RankE) (w : World) (hg : gOk G = false) :
    Calls Tryd.prog 67 #[.agg #[.int .i64 G.a, .int .i64 G.b, .int .i64 G.r, .int .i64 G.c], .agg #[.slice R.a R.n R.c, .int .i64 R.p]] w fun e w' => e = .returned (.bool false) ∧ Below w.heap.size w w' := by
  have hb := bankN_no hg
  go_enter Tryd.func67, Tryd.ntmps67
  go_wp2_with fail
  refine wp_world (fun W hw => ?_)
  have X : BoxG W w.heap.size G := by rw [hw.out]; exact (BoxG.new _ _ _).old (below_alloc _ _)
  have B : Below w.heap.size w W := by rw [hw.out]; exact below_alloc2 _ _ _
  obtain ⟨hlt, c0, c1, c2, c3⟩ := X
  have hov := over_cell W
  clear hw
  refine wp_region_over (by kernel_rfl) (by kernel_rfl) ?_
  repeat (go_big_quiet_step ((first | (go_at_call 62; exact calls_over (specGeometryOk_of hg)) | (go_at_call 50; exact calls_over (specBankCount_any _ _)))))
  refine wpQuiet_nil ?_
  intro W2 B2
  go_wp2_with fail
  go_ret
  exact ⟨rfl, below_step B B2 (Nat.le_refl _)⟩
set_option maxRecDepth 100000 in
theorem specRankOk_yes (G : Geo) (R : RankE) (w : World) (hR : RankR w R) (hn : R.n ≤ 1048576) (hg : gOk G = true) :
    Calls Tryd.prog 67 #[.agg #[.int .i64 G.a, .int .i64 G.b, .int .i64 G.r, .int .i64 G.c], .agg #[.slice R.a R.n R.c, .int .i64 R.p]] w fun e w' => e = .returned (.bool (rankOk G R.d)) ∧ Below w.heap.size w w' := by
  have hle := hid (lenR_eq G hR.len)
  have HL := hid hR.len
  have HX := hid hR
  have HGO := hid hg
  clear hR
  obtain ⟨sa, hsa⟩ : ∃ sa, R.a = sa := ⟨_, rfl⟩
  have HSA := hid hsa
  obtain ⟨sp, hsp⟩ : ∃ sp, R.p = sp := ⟨_, rfl⟩
  have HSP := hid hsp
  rw [hsa, hsp]
  clear hsa hsp
  go_enter Tryd.func67, Tryd.ntmps67
  go_wp2_with fail
  refine wp_world (fun W hw => ?_)
  have HG : Hid (BoxG W w.heap.size G) := by rw [hw.out]; exact hid ((BoxG.new _ _ _).old (below_alloc _ _))
  have HK : Hid (BoxK2 W (w.heap.size + 1) R) := by rw [hw.out, ← HSA.out, ← HSP.out]; exact hid (BoxK2.new_ (w.alloc _) _ _ (by simp))
  have HB : Hid (Below w.heap.size w W) := by rw [hw.out]; exact hid (below_alloc2 _ _ _)
  clear hw
  obtain ⟨hlt, c0, c1, c2, c3⟩ := HG.out
  obtain ⟨hlt', d0, d1⟩ := HK.out
  rw [HSA.out] at d0
  rw [HSP.out] at d1
  have hov := over_cell W
  cases k0 : ((R.n : Int) != bankN G) with
  | true =>
    have HF := hid (rankOk_len (G := G) (D := R.d) (by rw [hle.out, k0]; rfl))
    refine wp_region_over (by kernel_rfl) (by kernel_rfl) ?_
    repeat (go_big_quiet_step ((first | (go_at_call 62; exact calls_over (specGeometryOk_of hg)) | (go_at_call 50; exact calls_over (specBankCount_any _ _)))))
    refine wpQuiet_nil ?_
    intro W2 B2
    go_wp2_with fail
    go_ret
    exact ⟨by rw [HF.out]; rfl, below_step HB.out B2 (Nat.le_refl _)⟩
  | false =>
    have HLO := hid (show lenR G R.d = true by rw [hle.out, k0]; rfl)
    cases k1 : inB sp 0 2 with
    | false =>
      have HF := hid (rankOk_pow (G := G) (D := R.d) (by show inB R.p 0 2 = false; rw [HSP.out, k1]))
      refine wp_region_over (by kernel_rfl) (by kernel_rfl) ?_
      repeat (go_big_quiet_step ((first | (go_at_call 62; exact calls_over (specGeometryOk_of hg)) | (go_at_call 50; exact calls_over (specBankCount_any _ _)) | (go_at_call 37; with_reducible exact calls_over_same (l01In_of k1)))))
      refine wpQuiet_nil ?_
      intro W2 B2
      go_wp2_with fail
      go_ret
      exact ⟨by rw [HF.out]; rfl, below_step HB.out B2 (Nat.le_refl _)⟩
    | true =>
      have HPO := hid (show inB R.d.p 0 2 = true by show inB R.p 0 2 = true; rw [HSP.out, k1])
      refine wp_region_over (by kernel_rfl) (by kernel_rfl) ?_
      repeat (go_big_quiet_step ((first | (go_at_call 62; exact calls_over (specGeometryOk_of hg)) | (go_at_call 50; exact calls_over (specBankCount_any _ _)) | (go_at_call 37; with_reducible exact calls_over_same (l01In_of k1)))))
      refine wpQuiet_nil ?_
      intro W2 B2
      have HG2 := hid (HG.out.old B2)
      have HK2 := hid (HK.out.old B2)
      have HB2 := hid (below_step HB.out B2 (Nat.le_refl _))
      clear hov c0 c1 c2 c3 d0 d1 hlt hlt' HB HG HK k0 k1 hle
      obtain ⟨hlt', d0, d1⟩ := HK2.out
      rw [HSA.out] at d0
      obtain ⟨_, _, ⟨r0, r1⟩, _⟩ := gOk_iff.1 hg
      have er : IntKind.i64.wrap (G.r - 1) = G.r - 1 := IntWalk.i64_in _ (by omega)
      clear hg
      clear d0 d1 hlt'
      go_wp2_with fail
      go_loopw [5] (fun i wr => ∃ k : Nat, k ≤ R.n ∧ i = .int .i64 k ∧ Hid (allB G (R.es.take k) = true) ∧ Hid (∀ x ∈ R.es.take k, sp = 2 → x.1 = false) ∧ Hid (Below W2.heap.size W2 wr)) (fun i _ => R.n - (intOf i).toNat)
      case atStart => exact ⟨0, Nat.zero_le _, rfl, hid rfl, hid (fun x hx => by cases hx), hid (Below.refl _ _)⟩
      case round =>
        obtain ⟨k, hk, rfl, HA, HP, HB⟩ := hrel
        have HB3 := hid (below_step HB2.out HB.out (Nat.le_refl _))
        obtain ⟨_, d0, d1⟩ := HK2.out.old HB.out
        rw [HSA.out] at d0
        rw [HSP.out] at d1
        by_cases hlk : k < R.n
        · obtain ⟨e, b1, o1, he, ha, hb1, hc0, hc1⟩ := (HX.out.old HB3.out).at_ hlk
          have HE := hid he
          obtain ⟨eo, ev⟩ := e
          rw [HSA.out] at ha
          subst ha
          obtain ⟨_, _, _, g2, _⟩ := HG2.out.old HB.out
          have HB4 := hid (below_step HB.out (below_alloc wr (.cells #[.bool eo, .int .i64 ev] 89)) (Nat.le_refl _))
          have HB5 := hid (below_step HB3.out (below_alloc wr (.cells #[.bool eo, .int .i64 ev] 89)) (Nat.le_refl _))
          clear he
          cases k2 : inB ev 0 (G.r - 1) with
          | false =>
            have HF := hid (rankOk_all (D := R.d) (allB_no (G := G) HE.out (by show (inB ev 0 (G.r - 1) && _) = false; rw [k2]; rfl)))
            go_wp2_with (go_at_call 37; with_reducible refine (l01In_of k2).mono ?_; rintro e w' ⟨rfl, rfl⟩)
            go_ret
            exact ⟨by rw [HF.out]; rfl, HB5.out⟩
          | true =>
            cases eo with
            | false =>
              have HP2 := hid (show ∀ x ∈ R.es.take (k + 1), sp = 2 → x.1 = false by
                intro x hx h2
                rw [take_snoc HE.out] at hx
                rcases List.mem_append.1 hx with h | h
                · exact HP.out x h h2
                · simp at h; subst h; rfl)
              cases k3 : (ev != 0) with
              | false =>
                have HA2 := hid (allB_take (G := G) HE.out HA.out (by show (inB ev 0 (G.r - 1) && (false || ev == 0)) = true; rw [k2]; simp at k3; simp [k3]))
                go_wp2_with (go_at_call 37; with_reducible refine (l01In_of k2).mono ?_; rintro e w' ⟨rfl, rfl⟩)
                go_roundw
                case rel => exact ⟨k + 1, by omega, by go_num, HA2, HP2, HB4⟩
                case measure => simp [intOf]; omega
              | true =>
                have HF := hid (rankOk_all (D := R.d) (allB_no (G := G) HE.out (by show (inB ev 0 (G.r - 1) && (false || ev == 0)) = false; simp at k3; simp [k3])))
                go_wp2_with (go_at_call 37; with_reducible refine (l01In_of k2).mono ?_; rintro e w' ⟨rfl, rfl⟩)
                go_ret
                exact ⟨by rw [HF.out]; rfl, HB5.out⟩
            | true =>
              have HA2 := hid (allB_take (G := G) HE.out HA.out (by show (inB ev 0 (G.r - 1) && (true || ev == 0)) = true; rw [k2]; rfl))
              cases k4 : (sp == 2) with
              | false =>
                have HP2 := hid (show ∀ x ∈ R.es.take (k + 1), sp = 2 → x.1 = false by
                  intro x hx h2
                  rw [h2] at k4; cases k4)
                go_wp2_with (go_at_call 37; with_reducible refine (l01In_of k2).mono ?_; rintro e w' ⟨rfl, rfl⟩)
                go_roundw
                case rel => exact ⟨k + 1, by omega, by go_num, HA2, HP2, HB4⟩
                case measure => simp [intOf]; omega
              | true =>
                have HF := hid (rankOk_powB (G := G) (D := R.d) (by
                  show (R.p != 2 || (openB R.es).isEmpty) = false
                  have h1 : R.p = 2 := by rw [HSP.out]; simpa using k4
                  have h2 := openFrom_mem R.es 0 (List.mem_of_getElem? HE.out) rfl
                  rw [h1]
                  unfold openB
                  cases hq : openFrom 0 R.es with
                  | nil => exact absurd hq h2
                  | cons _ _ => rfl))
                go_wp2_with (go_at_call 37; with_reducible refine (l01In_of k2).mono ?_; rintro e w' ⟨rfl, rfl⟩)
                go_ret
                exact ⟨by rw [HF.out]; rfl, HB5.out⟩
        · have hkn : k = R.n := by omega
          have htk : R.es.take k = R.es := List.take_of_length_le (by rw [← HL.out]; omega)
          have hall : allB G R.d.banks = true := by
            have := HA.out
            rw [htk] at this
            exact this
          have hp : powB R.d = true := by
            show (R.p != 2 || (openB R.es).isEmpty) = true
            by_cases h2 : R.p = 2
            · have := HP.out
              rw [htk] at this
              have := openFrom_none R.es 0 (fun x hx => this x hx (HSP.out.symm.trans h2))
              unfold openB
              rw [this, h2]; rfl
            · simp [h2]
          have HF := hid ((rankOk_yes HGO.out HLO.out HPO.out hall).trans hp)
          clear hall HA hp htk hkn
          go_wp2_with fail
          go_ret
          exact ⟨by rw [HF.out]; rfl, HB3.out⟩
theorem specRankOk_any (G : Geo) (R : RankE) (w : World) (hR : RankR w R) (hn : R.n ≤ 1048576) :
    Calls Tryd.prog 67 #[.agg #[.int .i64 G.a, .int .i64 G.b, .int .i64 G.r, .int .i64 G.c], .agg #[.slice R.a R.n R.c, .int .i64 R.p]] w fun e w' => e = .returned (.bool (rankOk G R.d)) ∧ Below w.heap.size w w' := by
  cases hg : gOk G with
  | true => exact specRankOk_yes G R w hR hn hg
  | false => rw [rankOk_geo hg]; exact specRankOk_no G R w hg
end Go.Proofs.YtggjheapjklhgaaDoor

/- RankNew: what the program's and the reference's return. -/
namespace Go.Proofs.YtggjheapjklhgaaDoor
open Go.RowKit

def rankNew (G : Geo) : RkD := ⟨List.replicate (bankN G).toNat (false, 0), 0⟩
theorem rankNew_len (G : Geo) : (rankNew G).banks.length ≤ 8 := by
  have := bankN_bd G
  simp [rankNew]; omega
theorem OwnF.none_ {α : Type} {f : α → List Value} {k : Nat} {T : TypeId} (w : World) (B U : Nat) (hU : U ≤ w.heap.size) : OwnF f k T w B U none 0 0 [] :=
  ⟨hU, ⟨by simp, .inl ⟨rfl, rfl⟩⟩, fun b hb => by simp [Value.ownBlock] at hb⟩
/-- A fresh variable of a rank. -/
structure BoxKN (w : World) (g : Nat) : Prop where
  hh : w.heap[g]? = some (.cells #[.slice none 0 0, .int .i64 0] 75 (0, 0))
theorem BoxKN.new_ (w : World) {g : Nat} (h : w.heap.size = g) : BoxKN (w.alloc (.cells #[.slice none 0 0, .int .i64 0] 75)) g := by subst h; exact ⟨heap_alloc_new w _⟩
theorem BoxKN.lt {w : World} {g : Nat} (h : BoxKN w g) : g < w.heap.size := (Array.getElem?_eq_some_iff.1 h.hh).1
theorem BoxKN.old {w w' : World} {g : Nat} (h : BoxKN w g) (hb : Below w.heap.size w w') : BoxKN w' g := ⟨(hb.block g h.lt).trans h.hh⟩
theorem BoxKN.c0 {w : World} {g : Nat} (h : BoxKN w g) : w.cell? ⟨g, 0, none⟩ = some (.slice none 0 0) := by rw [cell_of_row w g 0 _ _ (0, 0) h.hh]; simp
theorem BoxKN.c1 {w : World} {g : Nat} (h : BoxKN w g) : w.cell? ⟨g, 1, none⟩ = some (.int .i64 0) := by rw [cell_of_row w g 1 _ _ (0, 0) h.hh]; simp
theorem BoxKN.fr {w : World} {g : Nat} (h : BoxKN w g) (j : Nat) : w.frozen? ⟨g, j, none⟩ = false := frozen_of_row w g j _ _ h.hh
set_option maxRecDepth 100000 in
theorem specRankNew_any (G : Geo) (w : World) :
    Calls Tryd.prog 43 #[.agg #[.int .i64 G.a, .int .i64 G.b, .int .i64 G.r, .int .i64 G.c]] w fun e w' => ∃ R' : RankE, e = .returned (.agg #[.slice R'.a R'.n R'.c, .int .i64 R'.p]) ∧ OwnR w' w.heap.size w'.heap.size R' ∧ R'.d = rankNew G ∧ Below w.heap.size w w' := by
  obtain ⟨i0, hi, hz0, hz1, hz2⟩ := info_parts recB.info
  have HG := hid ((BoxG.new_ w 32 G rfl).old (below_alloc _ (.cells #[.slice none 0 0, .int .i64 0] 75)))
  have HBB := hid (below_alloc2 w (.cells #[.int .i64 G.a, .int .i64 G.b, .int .i64 G.r, .int .i64 G.c] 32) (.cells #[.slice none 0 0, .int .i64 0] 75))
  have HK := hid (BoxKN.new_ (w.alloc (.cells #[.int .i64 G.a, .int .i64 G.b, .int .i64 G.r, .int .i64 G.c] 32)) (show _ = w.heap.size + 1 by simp))
  go_enter Tryd.func43, Tryd.ntmps43
  go_wp2_with fail
  · have hbd := bankN_bd G
    obtain ⟨m, hm⟩ : ∃ m : Nat, bankN G = (m : Int) := ⟨(bankN G).toNat, by omega⟩
    have HV := hid (show rankNew G = ⟨List.replicate m (false, 0), 0⟩ by simp [rankNew, hm])
    have hm8 : m ≤ 8 := by omega
    have HM := hid hm
    clear hm hbd
    refine (specBankCount_any G _).mono ?_
    rintro e w2 ⟨rfl, B⟩
    rw [HM.out]
    have HB := hid (below_step HBB.out B (Nat.le_refl _))
    have HK := hid (HK.out.old B)
    clear B
    go_wp2_with (first | (at_make; refine wpList_make_full _ rfl _ _ 73 rfl w2.heap.size 89 i0 (.agg #[.bool false, .int .i64 0]) 2 Tryd.underlying73 hi hz0 hz1 _ _ _ _ m rfl rfl rfl rfl (by rw [hz2]; omega) (by unfold maxLen; omega) (Nat.le_refl _) ?_; intro w3 hown hg3; have B3 := (Below.refl w2.heap.size w2).grown hg3 (Nat.le_refl _) (fun k h => by cases h); have HK3 := hid (HK.out.old B3); have c0 := HK3.out.c0; have c1 := HK3.out.c1; have f0 := HK3.out.fr 0; have f1 := HK3.out.fr 1; have hlt3 : w2.heap.size < w3.heap.size := (World.ownsRow.lt hown w2.heap.size rfl).2; have HO := hid (OwnB.made hown hlt3); have HB3 := hid (below_step HB.out B3 (Nat.le_refl _)); have HS3 := hid B3.size; have HS2 := hid HB.out.size; clear hown hg3 B3))
    have hgk := HK3.out.lt
    have K : Keeps (fun b => b = w.heap.size + 1) w3 ((w3.setCell ⟨w.heap.size + 1, 0, none⟩ (.slice (some ⟨w2.heap.size, 0, none⟩) m m)).setCell ⟨w.heap.size + 1, 1, none⟩ (.int .i64 0)) := (Keeps.set (S := fun b => b = w.heap.size + 1) (Keeps.refl _ _) ⟨w.heap.size + 1, 0, none⟩ _ rfl).set ⟨w.heap.size + 1, 1, none⟩ _ rfl
    have HKK := hid K
    clear K
    refine bodyPost_ret (v := .agg #[.slice (some ⟨w2.heap.size, 0, none⟩) m m, .int .i64 0]) (by simp [results, Tryd.results43, go_sem, c0, c1]) rfl ⟨⟨some ⟨w2.heap.size, 0, none⟩, m, m, List.replicate m (false, 0), 0⟩, rfl, ?_, by rw [HV.out]; rfl, ?_⟩
    · have h1 := HK.out.lt
      exact OwnF.up (OwnF.mono (OwnF.keeps HO.out HKK.out (fun b hb _ hS => by omega)) (by have := HS2.out; omega)) HKK.out.size (Nat.le_refl _)
    · exact HB3.out.trans (HKK.out.below HB3.out.size (fun k hk hS => by omega))
end Go.Proofs.YtggjheapjklhgaaDoor
