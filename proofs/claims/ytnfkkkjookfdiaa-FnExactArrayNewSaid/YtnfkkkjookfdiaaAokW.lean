/- ArrayOk: what the program's and the reference's return. -/
import Derived.Test.YtnfkkkjookfdiaaArrW
import Derived.Test.YtnfkkkjookfdiaaAdrW
import Derived.Test.YtnfkkkjookfdiaaSymW
namespace Go.Proofs.Ytnfkkkjookfdiaa
open Go.RowKit

def cellsOk (cs : List (List Int × Bool)) : Bool := cs.all fun x => symOk x.1 11
def agesOk (a h : List Int) : Bool := a.all (fun n => inB n 0 100000) && h.all (fun n => inB n 0 100000)
def lensOk (G : Geo) (D : ArrD) : Bool := ((D.cells.length : Int) == lineN G) && ((D.age.length : Int) == rowsN G) && ((D.hits.length : Int) == rowsN G)
def arrOk (G : Geo) (D : ArrD) : Bool := gOk G && lensOk G D && cellsOk D.cells && agesOk D.age D.hits
theorem cellsOk_take {cs : List (List Int × Bool)} {k : Nat} {x : List Int × Bool} (hx : cs[k]? = some x) (h : cellsOk (cs.take k) = true) : cellsOk (cs.take (k + 1)) = symOk x.1 11 := by
  rw [take_snoc hx]
  unfold cellsOk at *
  rw [List.all_append, h]; simp
theorem cellsOk_no {cs : List (List Int × Bool)} {k : Nat} {x : List Int × Bool} (hx : cs[k]? = some x) (h : symOk x.1 11 = false) : cellsOk cs = false := by
  unfold cellsOk
  rw [List.all_eq_false]
  exact ⟨x, List.mem_of_getElem? hx, by simp [h]⟩
theorem agesOk_snoc {a h : List Int} {k : Nat} {x y : Int} (hx : a[k]? = some x) (hy : h[k]? = some y) (ho : agesOk (a.take k) (h.take k) = true) (h1 : inB x 0 100000 = true) (h2 : inB y 0 100000 = true) : agesOk (a.take (k + 1)) (h.take (k + 1)) = true := by
  rw [take_snoc hx, take_snoc hy]
  unfold agesOk at *
  rw [Bool.and_eq_true] at ho
  rw [List.all_append, List.all_append, ho.1, ho.2]
  simp [h1, h2]
theorem agesOk_no1 {a h : List Int} {k : Nat} {x : Int} (hx : a[k]? = some x) (h1 : inB x 0 100000 = false) : agesOk a h = false := by
  have : a.all (fun n => inB n 0 100000) = false := by rw [List.all_eq_false]; exact ⟨x, List.mem_of_getElem? hx, by simp [h1]⟩
  unfold agesOk; rw [this]; rfl
theorem agesOk_no2 {a h : List Int} {k : Nat} {y : Int} (hy : h[k]? = some y) (h1 : inB y 0 100000 = false) : agesOk a h = false := by
  have : h.all (fun n => inB n 0 100000) = false := by rw [List.all_eq_false]; exact ⟨y, List.mem_of_getElem? hy, by simp [h1]⟩
  unfold agesOk; rw [this, Bool.and_false]
theorem arrOk_geo {G : Geo} {D : ArrD} (h : gOk G = false) : arrOk G D = false := by unfold arrOk; rw [h]; rfl
theorem arrOk_len {G : Geo} {D : ArrD} (h : lensOk G D = false) : arrOk G D = false := by unfold arrOk; rw [h]; simp
theorem arrOk_cells {G : Geo} {D : ArrD} (h : cellsOk D.cells = false) : arrOk G D = false := by unfold arrOk; rw [h]; simp
theorem arrOk_ages {G : Geo} {D : ArrD} (h : agesOk D.age D.hits = false) : arrOk G D = false := by unfold arrOk; rw [h]; simp
theorem arrOk_yes {G : Geo} {D : ArrD} (h1 : gOk G = true) (h2 : lensOk G D = true) (h3 : cellsOk D.cells = true) (h4 : agesOk D.age D.hits = true) : arrOk G D = true := by unfold arrOk; rw [h1, h2, h3, h4]; rfl
/-- The cells of a boxed array. -/
structure BoxR (w : World) (g : Nat) (A : ArrE) : Prop where
  lt : g < w.heap.size
  c0 : w.cell? ⟨g, 0, none⟩ = some (.slice A.s0.a A.s0.n A.s0.c)
  c1 : w.cell? ⟨g, 1, none⟩ = some (.slice A.s1.a A.s1.n A.s1.c)
  c2 : w.cell? ⟨g, 2, none⟩ = some (.slice A.s2.a A.s2.n A.s2.c)
theorem BoxR.new_ (w : World) (t : TypeId) (A : ArrE) {g : Nat} (h : w.heap.size = g) : BoxR (w.alloc (.cells #[.slice A.s0.a A.s0.n A.s0.c, .slice A.s1.a A.s1.n A.s1.c, .slice A.s2.a A.s2.n A.s2.c] t)) g A := by
  subst h
  have h := box_at w [.slice A.s0.a A.s0.n A.s0.c, .slice A.s1.a A.s1.n A.s1.c, .slice A.s2.a A.s2.n A.s2.c] t
  exact ⟨by simp, h 0, h 1, h 2⟩
theorem BoxR.old {w w' : World} {g : Nat} {A : ArrE} (h : BoxR w g A) (hb : Below w.heap.size w w') : BoxR w' g A :=
  ⟨Nat.lt_of_lt_of_le h.lt hb.size, (hb.cell (p := ⟨g, 0, none⟩) h.lt).trans h.c0, (hb.cell (p := ⟨g, 1, none⟩) h.lt).trans h.c1, (hb.cell (p := ⟨g, 2, none⟩) h.lt).trans h.c2⟩

set_option maxRecDepth 100000 in
theorem implArrayOk_geo (G : Geo) (A : ArrE) (w : World) (hg : gOk G = false) :
    Calls Try.prog 25 #[.agg #[.int .i64 G.a, .int .i64 G.b, .int .i64 G.r, .int .i64 G.c], .agg #[.slice A.s0.a A.s0.n A.s0.c, .slice A.s1.a A.s1.n A.s1.c, .slice A.s2.a A.s2.n A.s2.c]] w fun e w' => e = .returned (.bool false) ∧ Below w.heap.size w w' := by
  have hb := bankN_no hg
  go_enter Try.func25, Try.ntmps25
  go_wp2_with fail
  refine wp_world (fun W hw => ?_)
  have X : BoxG W w.heap.size G := by rw [hw.out]; exact (BoxG.new _ _ _).old (below_alloc _ _)
  have Y : BoxR W (w.heap.size + 1) A := by rw [hw.out]; exact BoxR.new_ (w.alloc _) _ _ (by simp)
  have B : Below w.heap.size w W := by rw [hw.out]; exact below_alloc2 _ _ _
  obtain ⟨hlt, c0, c1, c2, c3⟩ := X
  obtain ⟨hlt', d0, d1, d2⟩ := Y
  have hov := over_cell W
  refine wp_region_over (by kernel_rfl) (by kernel_rfl) ?_
  repeat (go_big_quiet_step ((go_at_call 67; exact calls_over (implBankCount_any _ _))))
  refine wpQuiet_nil ?_
  intro W1 B1
  have c0' := (B1.cell (p := ⟨w.heap.size, 0, none⟩) hlt).trans c0
  have c1' := (B1.cell (p := ⟨w.heap.size, 1, none⟩) hlt).trans c1
  have c2' := (B1.cell (p := ⟨w.heap.size, 2, none⟩) hlt).trans c2
  have c3' := (B1.cell (p := ⟨w.heap.size, 3, none⟩) hlt).trans c3
  have hlt1 := Nat.lt_of_lt_of_le hlt B1.size
  have B1' := below_step B B1 (Nat.le_refl _)
  clear hov c0 c1 c2 c3 d0 d1 d2 B1 B hw
  have hov := over_cell W1
  go_wp2_with fail
  refine wp_region_over (by kernel_rfl) (by kernel_rfl) ?_
  repeat (go_big_quiet_step ((go_at_call 68; exact calls_over (implGeometryOk_of hg))))
  refine wpQuiet_nil ?_
  intro W2 B2
  go_wp2_with fail
  go_ret
  exact ⟨rfl, below_step B1' B2 (Nat.le_refl _)⟩

theorem lensOk_eq {G : Geo} {A : ArrE} {w : World} (hA : ArrR w A) : lensOk G A.d = (!((A.s0.n : Int) != lineN G) && !((A.s1.n : Int) != rowsN G) && !((A.s2.n : Int) != rowsN G)) := by
  have e0 : A.d.cells.length = A.s0.n := by rw [hA.cells.len]; simp [ArrE.d]
  have e1 : A.d.age.length = A.s1.n := hA.lage.symm
  have e2 : A.d.hits.length = A.s2.n := hA.lhits.symm
  unfold lensOk
  rw [e0, e1, e2]
  simp [bne]
theorem cells_at {A : ArrE} {k : Nat} {e : CellE} (he : A.es[k]? = some e) : A.d.cells[k]? = some (e.xs, e.p) := by
  show (A.es.map CellE.d)[k]? = _
  rw [List.getElem?_map, he]; rfl

set_option maxRecDepth 100000 in
theorem implArrayOk_yes (G : Geo) (A : ArrE) (w : World) (hA : ArrR w A) (hs : A.d.small) (hg : gOk G = true) :
    Calls Try.prog 25 #[.agg #[.int .i64 G.a, .int .i64 G.b, .int .i64 G.r, .int .i64 G.c], .agg #[.slice A.s0.a A.s0.n A.s0.c, .slice A.s1.a A.s1.n A.s1.c, .slice A.s2.a A.s2.n A.s2.c]] w fun e w' => e = .returned (.bool (arrOk G A.d)) ∧ Below w.heap.size w w' := by
  have h1 := (wrapR G hg).2
  have hle := hid (lensOk_eq (G := G) hA)
  have hn0 := hA.n0 hs
  have hn1 : A.s1.n ≤ 1048576 := by rw [hA.lage]; exact hs.age
  have hn2 : A.s2.n ≤ 1048576 := by rw [hA.lhits]; exact hs.hits
  have HS := hid hs
  have L1 := hid hA.lage
  have L2 := hid hA.lhits
  have HR1 := hid hA.age
  have HR2 := hid hA.hits
  have HGO := hid hg
  have hcl := hA.cells
  have HA := hid hA
  clear hA hs
  obtain ⟨sa, hsa⟩ : ∃ sa, A.s0.a = sa := ⟨_, rfl⟩
  obtain ⟨sb, hsb⟩ : ∃ sb, A.s1.a = sb := ⟨_, rfl⟩
  obtain ⟨sc, hsc⟩ : ∃ sc, A.s2.a = sc := ⟨_, rfl⟩
  have HSA := hid hsa
  have HSB := hid hsb
  have HSC := hid hsc
  rw [hsb] at HR1
  rw [hsc] at HR2
  rw [hsa] at hcl
  have HCL := hid hcl
  clear hcl
  rw [hsa, hsb, hsc]
  clear hsa hsb hsc
  go_enter Try.func25, Try.ntmps25
  go_wp2_with fail
  refine wp_world (fun W hw => ?_)
  have X : BoxG W w.heap.size G := by rw [hw.out]; exact (BoxG.new _ _ _).old (below_alloc _ _)
  have Y : BoxR W (w.heap.size + 1) A := by rw [hw.out, ← HSA.out, ← HSB.out, ← HSC.out]; exact BoxR.new_ (w.alloc _) _ _ (by simp)
  have B : Below w.heap.size w W := by rw [hw.out]; exact below_alloc2 _ _ _
  obtain ⟨hlt, c0, c1, c2, c3⟩ := X
  have hov := over_cell W
  refine wp_region_over (by kernel_rfl) (by kernel_rfl) ?_
  repeat (go_big_quiet_step ((go_at_call 67; exact calls_over (implBankCount_any _ _))))
  refine wpQuiet_nil ?_
  intro W1 B1
  obtain ⟨hlt1, c0', c1', c2', c3'⟩ := (BoxG.mk hlt c0 c1 c2 c3).old B1
  obtain ⟨hltr, d0, d1, d2⟩ := Y.old B1
  rw [HSA.out] at d0
  rw [HSB.out] at d1
  rw [HSC.out] at d2
  have HB1 := hid (below_step B B1 (Nat.le_refl _))
  clear hov c0 c1 c2 c3 B1 B hw Y hlt h1
  go_wp2_with fail
  have hov := over_cell W1
  cases k0 : ((A.s0.n : Int) != lineN G) with
  | true =>
    have HF := hid (arrOk_len (G := G) (D := A.d) (by rw [hle.out, k0]; rfl))
    refine wp_region_over (by kernel_rfl) (by kernel_rfl) ?_
    repeat (go_big_quiet_step ((first | (go_at_call 68; exact calls_over (implGeometryOk_of hg)) | (go_at_call 69; exact calls_over (implLineCount_any _ _ HGO.out)))))
    refine wpQuiet_nil ?_
    intro W2 B2
    go_wp2_with fail
    go_ret
    exact ⟨by rw [HF.out]; rfl, below_step HB1.out B2 (Nat.le_refl _)⟩
  | false =>
    cases k1 : ((A.s1.n : Int) != rowsN G) with
    | true =>
      have HF := hid (arrOk_len (G := G) (D := A.d) (by rw [hle.out, k0, k1]; rfl))
      refine wp_region_over (by kernel_rfl) (by kernel_rfl) ?_
      repeat (go_big_quiet_step ((first | (go_at_call 68; exact calls_over (implGeometryOk_of hg)) | (go_at_call 69; exact calls_over (implLineCount_any _ _ HGO.out)))))
      refine wpQuiet_nil ?_
      intro W2 B2
      go_wp2_with fail
      go_ret
      exact ⟨by rw [HF.out]; rfl, below_step HB1.out B2 (Nat.le_refl _)⟩
    | false =>
      cases k2 : ((A.s2.n : Int) != rowsN G) with
      | true =>
        have HF := hid (arrOk_len (G := G) (D := A.d) (by rw [hle.out, k0, k1, k2]; rfl))
        refine wp_region_over (by kernel_rfl) (by kernel_rfl) ?_
        repeat (go_big_quiet_step ((first | (go_at_call 68; exact calls_over (implGeometryOk_of hg)) | (go_at_call 69; exact calls_over (implLineCount_any _ _ HGO.out)))))
        refine wpQuiet_nil ?_
        intro W2 B2
        go_wp2_with fail
        go_ret
        exact ⟨by rw [HF.out]; rfl, below_step HB1.out B2 (Nat.le_refl _)⟩
      | false =>
        have HLO := hid (show lensOk G A.d = true by rw [hle.out, k0, k1, k2]; rfl)
        have hnn : A.s1.n = A.s2.n := by simp at k1 k2; omega
        have HNN := hid hnn
        refine wp_region_over (by kernel_rfl) (by kernel_rfl) ?_
        repeat (go_big_quiet_step ((first | (go_at_call 68; exact calls_over (implGeometryOk_of hg)) | (go_at_call 69; exact calls_over (implLineCount_any _ _ HGO.out)))))
        refine wpQuiet_nil ?_
        intro W2 B2
        have e0 := (B2.cell (p := ⟨w.heap.size + 1, 0, none⟩) hltr).trans d0
        have e1 := (B2.cell (p := ⟨w.heap.size + 1, 1, none⟩) hltr).trans d1
        have e2 := (B2.cell (p := ⟨w.heap.size + 1, 2, none⟩) hltr).trans d2
        have HB2 := hid (below_step HB1.out B2 (Nat.le_refl _))
        have hlt2 := Nat.lt_of_lt_of_le hltr B2.size
        clear hov c0' c1' c2' c3' d0 d1 d2 B2 HB1 hltr hlt1 k0 k1 k2 hle hnn hg
        have E1 := hid e1
        have E2 := hid e2
        clear e1 e2
        go_wp2_with fail
        go_loopw [42] (fun i wr => ∃ k : Nat, k ≤ A.s0.n ∧ i = .int .i64 k ∧ Hid (cellsOk (A.d.cells.take k) = true) ∧ Hid (Below W2.heap.size W2 wr)) (fun i _ => A.s0.n - (intOf i).toNat)
        case atStart => exact ⟨0, Nat.zero_le _, rfl, rfl, Below.refl _ _⟩
        case round =>
          obtain ⟨k, hk, rfl, HOK, HB⟩ := hrel
          by_cases hlk : k < A.s0.n
          · obtain ⟨e, b1, o1, he, ha1, hb1, hc0, hc1, hr, hen, _⟩ := ((HCL.out.old HB2.out).old HB.out).at_ hlk
            have hel := HS.out.es k e he
            have HX := hid (cells_at he)
            have HEN := hid hen
            have HR := hid hr
            subst ha1
            clear he hen hr
            go_wp2_with fail
            refine (implSymbolsOk_any _ _ _ _ _ _ (HR.out.old (below_alloc _ _)) HEN.out hel).mono ?_
            rintro e1 w3 ⟨rfl, q, rfl⟩
            cases hsy : symOk e.xs 11 with
            | true =>
              have HOK' := hid ((cellsOk_take HX.out HOK.out).trans hsy)
              have HB' := hid (below_step HB.out (below_drewN (below_alloc wr (.cells #[.slice e.a e.n e.c, .bool e.p] 61)) q) (Nat.le_refl _))
              clear HOK HB hc0 hc1 hsy
              go_wp2
              go_roundw
              case rel => exact ⟨k + 1, by omega, by go_num, HOK', HB'⟩
              case measure => simp [intOf]; omega
            | false =>
              have HF := hid (arrOk_cells (G := G) (cellsOk_no HX.out hsy))
              go_wp2_with fail
              go_ret
              exact ⟨by rw [HF.out]; rfl, below_step (below_step HB2.out HB.out (Nat.le_refl _)) (below_drewN (below_alloc _ _) q) (Nat.le_refl _)⟩
          · have hCO : cellsOk A.d.cells = true := by
              have := HOK.out
              rw [List.take_of_length_le (by have := HCL.out.len; simp [ArrE.d]; omega)] at this
              exact this
            have HCO := hid hCO
            have g1 := (HB.out.cell (p := ⟨w.heap.size + 1, 1, none⟩) hlt2).trans E1.out
            have g2 := (HB.out.cell (p := ⟨w.heap.size + 1, 2, none⟩) hlt2).trans E2.out
            have hlt3 := Nat.lt_of_lt_of_le hlt2 HB.out.size
            have HB3 := hid (below_step HB2.out HB.out (Nat.le_refl _))
            clear hCO HOK HB HB2 E1 E2 e0 hlt2
            go_wp2_with fail
            clear hlk hk
            have HG1 := hid g1
            have HG2 := hid g2
            clear g1 g2
            go_loopw [54] (fun i wl => ∃ k : Nat, k ≤ A.s1.n ∧ i = .int .i64 k ∧ Hid (agesOk (A.age.take k) (A.hits.take k) = true) ∧ Hid (Below wr.heap.size wr wl)) (fun i _ => A.s1.n - (intOf i).toNat)
            case atStart => exact ⟨0, Nat.zero_le _, rfl, rfl, Below.refl _ _⟩
            case round =>
              obtain ⟨k, hk, rfl, HOK, HB⟩ := hrel
              have g1 := (HB.out.cell (p := ⟨w.heap.size + 1, 1, none⟩) hlt3).trans HG1.out
              have g2 := (HB.out.cell (p := ⟨w.heap.size + 1, 2, none⟩) hlt3).trans HG2.out
              by_cases hlk : k < A.s1.n
              · obtain ⟨x, hx⟩ := some_at L1.out hlk
                obtain ⟨y, hy⟩ := some_at L2.out (show k < A.s2.n by have := HNN.out; omega)
                obtain ⟨b1, o1, ha1, hb1, hc1⟩ := ((HR1.out.old HB3.out).old HB.out) k x hx
                obtain ⟨b2, o2, ha2, hb2, hc2⟩ := ((HR2.out.old HB3.out).old HB.out) k y hy
                have HX := hid hx
                have HY := hid hy
                subst ha1 ha2
                have hk2 : k < A.s2.n := by have := HNN.out; omega
                clear hx hy
                cases b1' : inB x 0 100000 with
                | false =>
                  have HF := hid (arrOk_ages (G := G) (D := A.d) (agesOk_no1 HX.out b1'))
                  go_wp2_with (go_at_call 70; with_reducible refine (between_of b1').mono ?_; rintro e w' ⟨rfl, rfl⟩)
                  go_ret
                  exact ⟨by rw [HF.out]; rfl, below_step HB3.out HB.out (Nat.le_refl _)⟩
                | true =>
                  cases b2' : inB y 0 100000 with
                  | false =>
                    have HF := hid (arrOk_ages (G := G) (D := A.d) (agesOk_no2 HY.out b2'))
                    go_wp2_with (first | (go_at_call 70; with_reducible refine (between_of b1').mono ?_; rintro e w' ⟨rfl, rfl⟩) | (go_at_call 70; with_reducible refine (between_of b2').mono ?_; rintro e w' ⟨rfl, rfl⟩))
                    go_ret
                    exact ⟨by rw [HF.out]; rfl, below_step HB3.out HB.out (Nat.le_refl _)⟩
                  | true =>
                    have HOK' := hid (agesOk_snoc HX.out HY.out HOK.out b1' b2')
                    clear HOK
                    go_wp2_with (first | (go_at_call 70; with_reducible refine (between_of b1').mono ?_; rintro e w' ⟨rfl, rfl⟩) | (go_at_call 70; with_reducible refine (between_of b2').mono ?_; rintro e w' ⟨rfl, rfl⟩))
                    go_roundw
                    case rel => exact ⟨k + 1, by omega, by go_num, HOK', HB⟩
                    case measure => simp [intOf]; omega
              · have hAO : agesOk A.d.age A.d.hits = true := by
                  have := HOK.out
                  rw [List.take_of_length_le (by have := L1.out; omega), List.take_of_length_le (by have := L2.out; have := HNN.out; omega)] at this
                  exact this
                have HF := hid (arrOk_yes HGO.out HLO.out HCO.out hAO)
                clear hAO
                go_wp2
                go_ret
                exact ⟨by rw [HF.out]; rfl, below_step HB3.out HB.out (Nat.le_refl _)⟩
set_option maxRecDepth 100000 in
theorem specArrayOk_yes (G : Geo) (A : ArrE) (w : World) (hA : ArrR w A) (hs : A.d.small) (hg : gOk G = true) :
    Calls Try.prog 22 #[.agg #[.int .i64 G.a, .int .i64 G.b, .int .i64 G.r, .int .i64 G.c], .agg #[.slice A.s0.a A.s0.n A.s0.c, .slice A.s1.a A.s1.n A.s1.c, .slice A.s2.a A.s2.n A.s2.c]] w fun e w' => e = .returned (.bool (arrOk G A.d)) ∧ Below w.heap.size w w' := by
  have h1 := (wrapR G hg).2
  have hle := hid (lensOk_eq (G := G) hA)
  have hn0 := hA.n0 hs
  have hn1 : A.s1.n ≤ 1048576 := by rw [hA.lage]; exact hs.age
  have hn2 : A.s2.n ≤ 1048576 := by rw [hA.lhits]; exact hs.hits
  have HS := hid hs
  have L1 := hid hA.lage
  have L2 := hid hA.lhits
  have HR1 := hid hA.age
  have HR2 := hid hA.hits
  have HGO := hid hg
  have hcl := hA.cells
  have HA := hid hA
  clear hA hs
  obtain ⟨sa, hsa⟩ : ∃ sa, A.s0.a = sa := ⟨_, rfl⟩
  obtain ⟨sb, hsb⟩ : ∃ sb, A.s1.a = sb := ⟨_, rfl⟩
  obtain ⟨sc, hsc⟩ : ∃ sc, A.s2.a = sc := ⟨_, rfl⟩
  have HSA := hid hsa
  have HSB := hid hsb
  have HSC := hid hsc
  rw [hsb] at HR1
  rw [hsc] at HR2
  rw [hsa] at hcl
  have HCL := hid hcl
  clear hcl
  rw [hsa, hsb, hsc]
  clear hsa hsb hsc
  go_enter Try.func22, Try.ntmps22
  go_wp2_with fail
  refine wp_world (fun W hw => ?_)
  have X : BoxG W w.heap.size G := by rw [hw.out]; exact (BoxG.new _ _ _).old (below_alloc _ _)
  have Y : BoxR W (w.heap.size + 1) A := by rw [hw.out, ← HSA.out, ← HSB.out, ← HSC.out]; exact BoxR.new_ (w.alloc _) _ _ (by simp)
  have B : Below w.heap.size w W := by rw [hw.out]; exact below_alloc2 _ _ _
  obtain ⟨hlt, c0, c1, c2, c3⟩ := X
  obtain ⟨hltr, d0, d1, d2⟩ := Y
  rw [HSA.out] at d0
  rw [HSB.out] at d1
  rw [HSC.out] at d2
  have HB1 := hid B
  clear hw B
  have hov := over_cell W
  cases k0 : ((A.s0.n : Int) != lineN G) with
  | true =>
    have HF := hid (arrOk_len (G := G) (D := A.d) (by rw [hle.out, k0]; rfl))
    refine wp_region_over (by kernel_rfl) (by kernel_rfl) ?_
    repeat (go_big_quiet_step ((first | (go_at_call 62; exact calls_over (specGeometryOk_of hg)) | (go_at_call 63; exact calls_over (specLineCount_any _ _)) | (go_at_call 64; exact calls_over (specBankCount_any _ _)))))
    refine wpQuiet_nil ?_
    intro W2 B2
    go_wp2_with fail
    go_ret
    exact ⟨by rw [HF.out]; rfl, below_step HB1.out B2 (Nat.le_refl _)⟩
  | false =>
    cases k1 : ((A.s1.n : Int) != rowsN G) with
    | true =>
      have HF := hid (arrOk_len (G := G) (D := A.d) (by rw [hle.out, k0, k1]; rfl))
      refine wp_region_over (by kernel_rfl) (by kernel_rfl) ?_
      repeat (go_big_quiet_step ((first | (go_at_call 62; exact calls_over (specGeometryOk_of hg)) | (go_at_call 63; exact calls_over (specLineCount_any _ _)) | (go_at_call 64; exact calls_over (specBankCount_any _ _)))))
      refine wpQuiet_nil ?_
      intro W2 B2
      go_wp2_with fail
      go_ret
      exact ⟨by rw [HF.out]; rfl, below_step HB1.out B2 (Nat.le_refl _)⟩
    | false =>
      have hq : ((A.s2.n : Int) != rowsN G) = ((A.s2.n : Int) != (A.s1.n : Int)) := by simp at k1; rw [k1]
      have hq2 : ((A.s2.n : Int) != (A.s1.n : Int)) = (A.s2.n != A.s1.n) := by rw [bne, bne]; congr 1; rw [Bool.eq_iff_iff]; simp; omega
      cases k2 : (A.s2.n != A.s1.n) with
      | true =>
        have k2' : ((A.s2.n : Int) != (A.s1.n : Int)) = true := by rw [hq2]; exact k2
        have k3 : ((A.s2.n : Int) != rowsN G) = true := by rw [hq]; exact k2'
        have HK3 := hid k3
        clear hq hq2 k3
        have HF := hid (arrOk_len (G := G) (D := A.d) (by rw [hle.out, k0, k1, HK3.out]; rfl))
        refine wp_region_over (by kernel_rfl) (by kernel_rfl) ?_
        repeat (go_big_quiet_step ((first | (go_at_call 62; exact calls_over (specGeometryOk_of hg)) | (go_at_call 63; exact calls_over (specLineCount_any _ _)) | (go_at_call 64; exact calls_over (specBankCount_any _ _)))))
        refine wpQuiet_nil ?_
        intro W2 B2
        go_wp2_with fail
        go_ret
        exact ⟨by rw [HF.out]; rfl, below_step HB1.out B2 (Nat.le_refl _)⟩
      | false =>
        have k2' : ((A.s2.n : Int) != (A.s1.n : Int)) = false := by rw [hq2]; exact k2
        have k3 : ((A.s2.n : Int) != rowsN G) = false := by rw [hq]; exact k2'
        have HK3 := hid k3
        have HLO := hid (show lensOk G A.d = true by rw [hle.out, k0, k1, HK3.out]; rfl)
        have hnn : A.s1.n = A.s2.n := by simp at k2; omega
        have HNN := hid hnn
        clear hq hq2 k3 hnn
        refine wp_region_over (by kernel_rfl) (by kernel_rfl) ?_
        repeat (go_big_quiet_step ((first | (go_at_call 62; exact calls_over (specGeometryOk_of hg)) | (go_at_call 63; exact calls_over (specLineCount_any _ _)) | (go_at_call 64; exact calls_over (specBankCount_any _ _)))))
        refine wpQuiet_nil ?_
        intro W2 B2
        have e0 := (B2.cell (p := ⟨w.heap.size + 1, 0, none⟩) hltr).trans d0
        have e1 := (B2.cell (p := ⟨w.heap.size + 1, 1, none⟩) hltr).trans d1
        have e2 := (B2.cell (p := ⟨w.heap.size + 1, 2, none⟩) hltr).trans d2
        have HB2 := hid (below_step HB1.out B2 (Nat.le_refl _))
        have hlt2 := Nat.lt_of_lt_of_le hltr B2.size
        clear hov c0 c1 c2 c3 d0 d1 d2 B2 HB1 hltr hlt k0 k1 k2 k2' HK3 hle hg
        have E0 := hid e0
        have E1 := hid e1
        have E2 := hid e2
        clear e0 e1 e2
        go_wp2_with fail
        go_loopw [5] (fun i wr => ∃ k : Nat, k ≤ A.s0.n ∧ i = .int .i64 k ∧ Hid (cellsOk (A.d.cells.take k) = true) ∧ Hid (Below W2.heap.size W2 wr)) (fun i _ => A.s0.n - (intOf i).toNat)
        case atStart => exact ⟨0, Nat.zero_le _, rfl, rfl, Below.refl _ _⟩
        case round =>
          obtain ⟨k, hk, rfl, HOK, HB⟩ := hrel
          have g0 := (HB.out.cell (p := ⟨w.heap.size + 1, 0, none⟩) hlt2).trans E0.out
          by_cases hlk : k < A.s0.n
          · obtain ⟨e, b1, o1, he, ha1, hb1, hc0, hc1, hr, hen, _⟩ := ((HCL.out.old HB2.out).old HB.out).at_ hlk
            have hel := HS.out.es k e he
            have HX := hid (cells_at he)
            have HEN := hid hen
            have HR := hid hr
            subst ha1
            clear he hen hr
            go_wp2_with fail
            refine (specSymbolsOk_any _ _ _ _ _ _ HR.out HEN.out hel).mono ?_
            rintro e1 w3 ⟨rfl, q, rfl⟩
            cases hsy : symOk e.xs 11 with
            | true =>
              have HOK' := hid ((cellsOk_take HX.out HOK.out).trans hsy)
              have HB' := hid (below_drewN HB.out q)
              clear HOK HB hc0 hc1 hsy g0
              go_wp2
              go_roundw
              case rel => exact ⟨k + 1, by omega, by go_num, HOK', HB'⟩
              case measure => simp [intOf]; omega
            | false =>
              have HF := hid (arrOk_cells (G := G) (cellsOk_no HX.out hsy))
              go_wp2_with fail
              go_ret
              exact ⟨by rw [HF.out]; rfl, below_drewN (below_step HB2.out HB.out (Nat.le_refl _)) q⟩
          · have hCO : cellsOk A.d.cells = true := by
              have := HOK.out
              rw [List.take_of_length_le (by have := HCL.out.len; simp [ArrE.d]; omega)] at this
              exact this
            have HCO := hid hCO
            have g1 := (HB.out.cell (p := ⟨w.heap.size + 1, 1, none⟩) hlt2).trans E1.out
            have g2 := (HB.out.cell (p := ⟨w.heap.size + 1, 2, none⟩) hlt2).trans E2.out
            have hlt3 := Nat.lt_of_lt_of_le hlt2 HB.out.size
            have HB3 := hid (below_step HB2.out HB.out (Nat.le_refl _))
            clear hCO HOK HB HB2 E1 E2 E0 hlt2
            go_wp2_with fail
            clear hlk hk g0
            have HG1 := hid g1
            have HG2 := hid g2
            clear g1 g2
            go_loopw [6] (fun i wl => ∃ k : Nat, k ≤ A.s1.n ∧ i = .int .i64 k ∧ Hid (agesOk (A.age.take k) (A.hits.take k) = true) ∧ Hid (Below wr.heap.size wr wl)) (fun i _ => A.s1.n - (intOf i).toNat)
            case atStart => exact ⟨0, Nat.zero_le _, rfl, rfl, Below.refl _ _⟩
            case round =>
              obtain ⟨k, hk, rfl, HOK, HB⟩ := hrel
              have g1 := (HB.out.cell (p := ⟨w.heap.size + 1, 1, none⟩) hlt3).trans HG1.out
              have g2 := (HB.out.cell (p := ⟨w.heap.size + 1, 2, none⟩) hlt3).trans HG2.out
              by_cases hlk : k < A.s1.n
              · obtain ⟨x, hx⟩ := some_at L1.out hlk
                obtain ⟨y, hy⟩ := some_at L2.out (show k < A.s2.n by have := HNN.out; omega)
                obtain ⟨b1, o1, ha1, hb1, hc1⟩ := ((HR1.out.old HB3.out).old HB.out) k x hx
                obtain ⟨b2, o2, ha2, hb2, hc2⟩ := ((HR2.out.old HB3.out).old HB.out) k y hy
                have HX := hid hx
                have HY := hid hy
                subst ha1 ha2
                have hk2 : k < A.s2.n := by have := HNN.out; omega
                clear hx hy
                cases b1' : inB x 0 100000 with
                | false =>
                  have HF := hid (arrOk_ages (G := G) (D := A.d) (agesOk_no1 HX.out b1'))
                  go_wp2_with (go_at_call 65; with_reducible refine (l01In_of b1').mono ?_; rintro e w' ⟨rfl, rfl⟩)
                  go_ret
                  exact ⟨by rw [HF.out]; rfl, below_step HB3.out HB.out (Nat.le_refl _)⟩
                | true =>
                  cases b2' : inB y 0 100000 with
                  | false =>
                    have HF := hid (arrOk_ages (G := G) (D := A.d) (agesOk_no2 HY.out b2'))
                    go_wp2_with (first | (go_at_call 65; with_reducible refine (l01In_of b1').mono ?_; rintro e w' ⟨rfl, rfl⟩) | (go_at_call 65; with_reducible refine (l01In_of b2').mono ?_; rintro e w' ⟨rfl, rfl⟩))
                    go_ret
                    exact ⟨by rw [HF.out]; rfl, below_step HB3.out HB.out (Nat.le_refl _)⟩
                  | true =>
                    have HOK' := hid (agesOk_snoc HX.out HY.out HOK.out b1' b2')
                    clear HOK
                    go_wp2_with (first | (go_at_call 65; with_reducible refine (l01In_of b1').mono ?_; rintro e w' ⟨rfl, rfl⟩) | (go_at_call 65; with_reducible refine (l01In_of b2').mono ?_; rintro e w' ⟨rfl, rfl⟩))
                    go_roundw
                    case rel => exact ⟨k + 1, by omega, by go_num, HOK', HB⟩
                    case measure => simp [intOf]; omega
              · have hAO : agesOk A.d.age A.d.hits = true := by
                  have := HOK.out
                  rw [List.take_of_length_le (by have := L1.out; omega), List.take_of_length_le (by have := L2.out; have := HNN.out; omega)] at this
                  exact this
                have HF := hid (arrOk_yes HGO.out HLO.out HCO.out hAO)
                clear hAO
                go_wp2
                go_ret
                exact ⟨by rw [HF.out]; rfl, below_step HB3.out HB.out (Nat.le_refl _)⟩

set_option maxRecDepth 100000 in
theorem specArrayOk_geo (G : Geo) (A : ArrE) (w : World) (hg : gOk G = false) :
    Calls Try.prog 22 #[.agg #[.int .i64 G.a, .int .i64 G.b, .int .i64 G.r, .int .i64 G.c], .agg #[.slice A.s0.a A.s0.n A.s0.c, .slice A.s1.a A.s1.n A.s1.c, .slice A.s2.a A.s2.n A.s2.c]] w fun e w' => e = .returned (.bool false) ∧ Below w.heap.size w w' := by
  go_enter Try.func22, Try.ntmps22
  go_wp2_with fail
  refine wp_world (fun W hw => ?_)
  have X : BoxG W w.heap.size G := by rw [hw.out]; exact (BoxG.new _ _ _).old (below_alloc _ _)
  have B : Below w.heap.size w W := by rw [hw.out]; exact below_alloc2 _ _ _
  obtain ⟨hlt, c0, c1, c2, c3⟩ := X
  have hov := over_cell W
  refine wp_region_over (by kernel_rfl) (by kernel_rfl) ?_
  repeat (go_big_quiet_step ((go_at_call 62; exact calls_over (specGeometryOk_of hg))))
  refine wpQuiet_nil ?_
  intro W1 B1
  go_wp2_with fail
  go_ret
  exact ⟨rfl, below_step B B1 (Nat.le_refl _)⟩
theorem specArrayOk_any (G : Geo) (A : ArrE) (w : World) (hA : ArrR w A) (hs : A.d.small) :
    Calls Try.prog 22 #[.agg #[.int .i64 G.a, .int .i64 G.b, .int .i64 G.r, .int .i64 G.c], .agg #[.slice A.s0.a A.s0.n A.s0.c, .slice A.s1.a A.s1.n A.s1.c, .slice A.s2.a A.s2.n A.s2.c]] w fun e w' => e = .returned (.bool (arrOk G A.d)) ∧ Below w.heap.size w w' := by
  cases hg : gOk G with
  | true => exact specArrayOk_yes G A w hA hs hg
  | false => rw [arrOk_geo hg]; exact specArrayOk_geo G A w hg
theorem implArrayOk_any (G : Geo) (A : ArrE) (w : World) (hA : ArrR w A) (hs : A.d.small) :
    Calls Try.prog 25 #[.agg #[.int .i64 G.a, .int .i64 G.b, .int .i64 G.r, .int .i64 G.c], .agg #[.slice A.s0.a A.s0.n A.s0.c, .slice A.s1.a A.s1.n A.s1.c, .slice A.s2.a A.s2.n A.s2.c]] w fun e w' => e = .returned (.bool (arrOk G A.d)) ∧ Below w.heap.size w w' := by
  cases hg : gOk G with
  | true => exact implArrayOk_yes G A w hA hs hg
  | false => rw [arrOk_geo hg]; exact implArrayOk_geo G A w hg
end Go.Proofs.Ytnfkkkjookfdiaa
