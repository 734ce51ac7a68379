/- RowDecayed: what the program's and the reference's return. -/
import Derived.Test.YtnfkkkjookfdiaaBox
namespace Go.Proofs.Ytnfkkkjookfdiaa
open Go.RowKit

/-- Is the row gone. -/
def goneB (la lh : Int) (D : ArrD) (i : Nat) : Bool := decide (la < D.age[i]?.getD 0) || decide (lh < D.hits[i]?.getD 0)
def rowGone (G : Geo) (la lh : Int) (D : ArrD) (b r : Int) : Bool := arrOk G D && adrOk G ⟨b, r, 0⟩ && goneB la lh D (b * G.r + r).toNat
theorem arrOk_parts {G : Geo} {D : ArrD} (h : arrOk G D = true) : gOk G = true ∧ (D.cells.length : Int) = lineN G ∧ (D.age.length : Int) = rowsN G ∧ (D.hits.length : Int) = rowsN G ∧ cellsOk D.cells = true := by
  unfold arrOk lensOk at h
  simp only [Bool.and_eq_true, beq_iff_eq] at h
  exact ⟨h.1.1.1, h.1.1.2.1.1, h.1.1.2.1.2, h.1.1.2.2, h.1.2⟩
/-- The number of a row of a valid array. -/
theorem row_idx {G : Geo} {D : ArrD} {b r : Int} (h : arrOk G D = true) (hk : adrOk G ⟨b, r, 0⟩ = true) : ∃ i : Nat, b * G.r + r = (i : Int) ∧ 0 ≤ b * G.r ∧ b * G.r ≤ 112 ∧ 0 ≤ r ∧ r ≤ 15 ∧ i < D.age.length ∧ i < D.hits.length := by
  obtain ⟨hg, h1, h2, h3, _⟩ := arrOk_parts h
  obtain ⟨_, _, _, h5, h6, h7, _, _⟩ := adrIdx_bd hk
  obtain ⟨_, ⟨b0, b1⟩, ⟨r0, r1⟩, _⟩ := adrOk_parts hk
  obtain ⟨_, _, ⟨q0, q1⟩, _⟩ := gOk_iff.1 hg
  simp only at h5 h6 h7 b0 b1 r0 r1
  exact ⟨(b * G.r + r).toNat, by omega, h5, h6, r0, by omega, by omega, by omega⟩
set_option maxRecDepth 100000 in
theorem specGone_any (G : Geo) (la lh : Int) (A : ArrE) (i : Nat) (w : World) (hA : ArrR w A) (h1 : i < A.d.age.length) (h2 : i < A.d.hits.length) :
    Calls Try.prog 79 #[.agg #[.int .i64 G.a, .int .i64 G.b, .int .i64 G.r, .int .i64 G.c], .agg #[.int .i64 la, .int .i64 lh], .agg #[.slice A.s0.a A.s0.n A.s0.c, .slice A.s1.a A.s1.n A.s1.c, .slice A.s2.a A.s2.n A.s2.c], .int .i64 i] w fun e w' => e = .returned (.bool (goneB la lh A.d i)) ∧ Below w.heap.size w w' := by
  obtain ⟨x, hx⟩ : ∃ x, A.age[i]? = some x := ⟨A.age[i]'h1, List.getElem?_eq_getElem _⟩
  obtain ⟨y, hy⟩ : ∃ y, A.hits[i]? = some y := ⟨A.hits[i]'h2, List.getElem?_eq_getElem _⟩
  have hgo : goneB la lh A.d i = (decide (la < x) || decide (lh < y)) := by
    unfold goneB
    show (decide (la < A.age[i]?.getD 0) || decide (lh < A.hits[i]?.getD 0)) = _
    rw [hx, hy]; rfl
  have HG := hid hgo
  obtain ⟨b1, o1, ha1, hb1, hc1⟩ := hA.age i x hx
  obtain ⟨b2, o2, ha2, hb2, hc2⟩ := hA.hits i y hy
  have hi1 : (i : Int) < A.s1.n := by have := hA.lage; have e : A.d.age.length = A.age.length := rfl; omega
  have hi2 : (i : Int) < A.s2.n := by have := hA.lhits; have e : A.d.hits.length = A.hits.length := rfl; omega
  have hi0 : (0 : Int) ≤ (i : Int) := by omega
  clear hgo hx hy h1 h2 hA
  rw [ha1, ha2]
  cases k1 : decide (la < x)
  all_goals
    go_enter Try.func79, Try.ntmps79
    go_wp2_with fail
    refine wp_world (fun W hw => ?_)
    have X1 : BoxL W (w.heap.size + 1) la lh := by rw [hw.out]; exact (BoxL.new_ (w.alloc _) _ _ _ (by simp)).old (below_alloc _ _)
    have hB : Below w.heap.size w W := by rw [hw.out]; exact below_alloc3 _ _ _ _
    have y1 : W.cell? ⟨w.heap.size + 1 + 1, 1, none⟩ = some (.slice (some ⟨b1, o1, none⟩) A.s1.n A.s1.c) := by rw [hw.out]; simp [go_sem]
    have y2 : W.cell? ⟨w.heap.size + 1 + 1, 2, none⟩ = some (.slice (some ⟨b2, o2, none⟩) A.s2.n A.s2.c) := by rw [hw.out]; simp [go_sem]
    have hc1' := (hB.cell (p := ⟨b1, o1 + i, none⟩) hb1).trans hc1
    have hc2' := (hB.cell (p := ⟨b2, o2 + i, none⟩) hb2).trans hc2
    obtain ⟨_, l0, l1⟩ := X1
    clear hw hc1 hc2
    go_quiet (fail)
    go_wp2_with fail
    go_ret
    exact ⟨by rw [HG.out]; simp [k1], below_drewN hB _⟩

set_option maxRecDepth 100000 in
theorem implGone_any (G : Geo) (la lh : Int) (A : ArrE) (b r : Int) (i : Nat) (w : World) (hA : ArrR w A) (h1 : i < A.d.age.length) (h2 : i < A.d.hits.length) (he : b * G.r + r = (i : Int)) (m0 : 0 ≤ b * G.r) (m1 : b * G.r ≤ 112) (r0 : 0 ≤ r) (r1 : r ≤ 15) :
    Calls Try.prog 81 #[.agg #[.int .i64 G.a, .int .i64 G.b, .int .i64 G.r, .int .i64 G.c], .agg #[.int .i64 la, .int .i64 lh], .agg #[.slice A.s0.a A.s0.n A.s0.c, .slice A.s1.a A.s1.n A.s1.c, .slice A.s2.a A.s2.n A.s2.c], .int .i64 b, .int .i64 r] w fun e w' => e = .returned (.bool (goneB la lh A.d i)) ∧ Below w.heap.size w w' := by
  obtain ⟨x, hx⟩ : ∃ x, A.age[i]? = some x := ⟨A.age[i]'h1, List.getElem?_eq_getElem _⟩
  obtain ⟨y, hy⟩ : ∃ y, A.hits[i]? = some y := ⟨A.hits[i]'h2, List.getElem?_eq_getElem _⟩
  have hgo : goneB la lh A.d i = (decide (la < x) || decide (lh < y)) := by
    unfold goneB
    show (decide (la < A.age[i]?.getD 0) || decide (lh < A.hits[i]?.getD 0)) = _
    rw [hx, hy]; rfl
  have HG := hid hgo
  obtain ⟨b1, o1, ha1, hb1, hc1⟩ := hA.age i x hx
  obtain ⟨b2, o2, ha2, hb2, hc2⟩ := hA.hits i y hy
  have hi1 : (i : Int) < A.s1.n := by have := hA.lage; have e : A.d.age.length = A.age.length := rfl; omega
  have hi2 : (i : Int) < A.s2.n := by have := hA.lhits; have e : A.d.hits.length = A.hits.length := rfl; omega
  have hi0 : (0 : Int) ≤ (i : Int) := by omega
  clear hgo hx hy h1 h2 hA
  rw [ha1, ha2]
  cases k1 : decide (la < x)
  all_goals
    go_enter Try.func81, Try.ntmps81
    go_wp2_with fail
    refine wp_world (fun W hw => ?_)
    have X1 : BoxL W (w.heap.size + 1) la lh := by rw [hw.out]; exact (BoxL.new_ (w.alloc _) _ _ _ (by simp)).old (below_alloc _ _)
    have hB : Below w.heap.size w W := by rw [hw.out]; exact below_alloc3 _ _ _ _
    have y1 : W.cell? ⟨w.heap.size + 1 + 1, 1, none⟩ = some (.slice (some ⟨b1, o1, none⟩) A.s1.n A.s1.c) := by rw [hw.out]; simp [go_sem]
    have y2 : W.cell? ⟨w.heap.size + 1 + 1, 2, none⟩ = some (.slice (some ⟨b2, o2, none⟩) A.s2.n A.s2.c) := by rw [hw.out]; simp [go_sem]
    have hc1' := (hB.cell (p := ⟨b1, o1 + i, none⟩) hb1).trans hc1
    have hc2' := (hB.cell (p := ⟨b2, o2 + i, none⟩) hb2).trans hc2
    obtain ⟨_, l0, l1⟩ := X1
    clear hw hc1 hc2
    go_quiet (fail)
    go_wp2_with fail
    go_ret
    exact ⟨by rw [HG.out]; simp [k1], below_drewN hB _⟩

set_option maxRecDepth 100000 in
theorem implRowDecayed_any (G : Geo) (la lh : Int) (A : ArrE) (b r : Int) (w : World) (hA : ArrR w A) (hs : A.d.small) :
    Calls Try.prog 32 #[.agg #[.int .i64 G.a, .int .i64 G.b, .int .i64 G.r, .int .i64 G.c], .agg #[.int .i64 la, .int .i64 lh], .agg #[.slice A.s0.a A.s0.n A.s0.c, .slice A.s1.a A.s1.n A.s1.c, .slice A.s2.a A.s2.n A.s2.c], .int .i64 b, .int .i64 r] w fun e w' => e = .returned (.bool (rowGone G la lh A.d b r)) ∧ Below w.heap.size w w' := by
  have HA := hid hA
  have HS := hid hs
  clear hA hs
  have hgo : rowGone G la lh A.d b r = (arrOk G A.d && adrOk G ⟨b, r, 0⟩ && goneB la lh A.d (b * G.r + r).toNat) := rfl
  cases k1 : arrOk G A.d with
  | false =>
    rw [k1] at hgo
    have HG := hid hgo
    clear hgo
    go_enter Try.func32, Try.ntmps32
    go_wp2_with fail
    refine (implArrayOk_any G A _ (HA.out.old (below_alloc3 _ _ _ _)) HS.out).mono ?_
    rintro e w1 ⟨rfl, B1⟩
    rw [k1]
    go_wp2_with fail
    go_ret
    exact ⟨by rw [HG.out]; rfl, below_step (below_alloc3 _ _ _ _) B1 (Nat.le_refl _)⟩
  | true =>
    rw [k1] at hgo
    cases k2 : adrOk G ⟨b, r, 0⟩ with
    | false =>
      rw [k2] at hgo
      have HG := hid hgo
      clear hgo
      go_enter Try.func32, Try.ntmps32
      go_wp2_with fail
      refine (implArrayOk_any G A _ (HA.out.old (below_alloc3 _ _ _ _)) HS.out).mono ?_
      rintro e w1 ⟨rfl, B1⟩
      rw [k1]
      have XG := (((BoxG.new_ w 37 G rfl).old (below_alloc _ _)).old (below_alloc _ _)).old B1
      obtain ⟨hlt, c0, c1, c2, c3⟩ := XG
      have B := below_step (below_alloc3 _ _ _ _) B1 (Nat.le_refl _)
      clear B1
      go_wp2_with fail
      refine (implRow_any G b r _).mono ?_
      rintro e w2 ⟨rfl, B2⟩
      rw [k2]
      go_wp2_with fail
      go_ret
      exact ⟨by rw [HG.out]; rfl, below_step B B2 (Nat.le_refl _)⟩
    | true =>
      rw [k2] at hgo
      obtain ⟨i, hi, m0, m1, r0, r1, i1, i2⟩ := row_idx k1 k2
      rw [hi, Int.toNat_natCast] at hgo
      have HG := hid hgo
      have HI := hid hi
      clear hgo hi
      have hsa : A.s0 = A.s0 := rfl
      go_enter Try.func32, Try.ntmps32
      go_wp2_with fail
      refine (implArrayOk_any G A _ (HA.out.old (below_alloc3 _ _ _ _)) HS.out).mono ?_
      rintro e w1 ⟨rfl, B1⟩
      rw [k1]
      obtain ⟨hlt, c0, c1, c2, c3⟩ := (((BoxG.new_ w 37 G rfl).old (below_alloc _ _)).old (below_alloc _ _)).old B1
      obtain ⟨hltl, l0, l1⟩ := ((BoxL.new_ (w.alloc _) 52 la lh (show _ = w.heap.size + 1 by simp)).old (below_alloc _ _)).old B1
      obtain ⟨hlta, x0, x1, x2⟩ := (BoxR.new_ ((w.alloc _).alloc _) 41 A (show _ = w.heap.size + 1 + 1 by simp)).old B1
      have B := below_step (below_alloc3 _ _ _ _) B1 (Nat.le_refl _)
      clear B1
      go_wp2_with fail
      refine (implRow_any G b r _).mono ?_
      rintro e w2 ⟨rfl, B2⟩
      rw [k2]
      have c0' := (B2.cell (p := ⟨w.heap.size, 0, none⟩) hlt).trans c0
      have c1' := (B2.cell (p := ⟨w.heap.size, 1, none⟩) hlt).trans c1
      have c2' := (B2.cell (p := ⟨w.heap.size, 2, none⟩) hlt).trans c2
      have c3' := (B2.cell (p := ⟨w.heap.size, 3, none⟩) hlt).trans c3
      have l0' := (B2.cell (p := ⟨w.heap.size + 1, 0, none⟩) hltl).trans l0
      have l1' := (B2.cell (p := ⟨w.heap.size + 1, 1, none⟩) hltl).trans l1
      have x0' := (B2.cell (p := ⟨w.heap.size + 1 + 1, 0, none⟩) hlta).trans x0
      have x1' := (B2.cell (p := ⟨w.heap.size + 1 + 1, 1, none⟩) hlta).trans x1
      have x2' := (B2.cell (p := ⟨w.heap.size + 1 + 1, 2, none⟩) hlta).trans x2
      have HB := hid (below_step B B2 (Nat.le_refl _))
      clear c0 c1 c2 c3 l0 l1 x0 x1 x2 B2 B hsa
      go_wp2_with fail
      refine (implGone_any G la lh A b r i _ (HA.out.old HB.out) i1 i2 HI.out m0 m1 r0 r1).mono ?_
      rintro e w3 ⟨rfl, B3⟩
      go_wp2_with fail
      go_ret
      exact ⟨by rw [HG.out]; simp, below_step HB.out B3 (Nat.le_refl _)⟩

set_option maxRecDepth 100000 in
theorem specRowDecayed_any (G : Geo) (la lh : Int) (A : ArrE) (b r : Int) (w : World) (hA : ArrR w A) (hs : A.d.small) :
    Calls Try.prog 30 #[.agg #[.int .i64 G.a, .int .i64 G.b, .int .i64 G.r, .int .i64 G.c], .agg #[.int .i64 la, .int .i64 lh], .agg #[.slice A.s0.a A.s0.n A.s0.c, .slice A.s1.a A.s1.n A.s1.c, .slice A.s2.a A.s2.n A.s2.c], .int .i64 b, .int .i64 r] w fun e w' => e = .returned (.bool (rowGone G la lh A.d b r)) ∧ Below w.heap.size w w' := by
  have HA := hid hA
  have HS := hid hs
  clear hA hs
  have hgo : rowGone G la lh A.d b r = (arrOk G A.d && adrOk G ⟨b, r, 0⟩ && goneB la lh A.d (b * G.r + r).toNat) := rfl
  cases k1 : arrOk G A.d with
  | false =>
    rw [k1] at hgo
    have HG := hid hgo
    clear hgo
    go_enter Try.func30, Try.ntmps30
    go_wp2_with fail
    refine (specArrayOk_any G A _ (HA.out.old (below_alloc3 _ _ _ _)) HS.out).mono ?_
    rintro e w1 ⟨rfl, B1⟩
    rw [k1]
    go_wp2_with fail
    go_ret
    exact ⟨by rw [HG.out]; rfl, below_step (below_alloc3 _ _ _ _) B1 (Nat.le_refl _)⟩
  | true =>
    rw [k1] at hgo
    cases k2 : adrOk G ⟨b, r, 0⟩ with
    | false =>
      rw [k2] at hgo
      have HG := hid hgo
      clear hgo
      go_enter Try.func30, Try.ntmps30
      go_wp2_with fail
      refine (specArrayOk_any G A _ (HA.out.old (below_alloc3 _ _ _ _)) HS.out).mono ?_
      rintro e w1 ⟨rfl, B1⟩
      rw [k1]
      have XG := (((BoxG.new_ w 37 G rfl).old (below_alloc _ _)).old (below_alloc _ _)).old B1
      obtain ⟨hlt, c0, c1, c2, c3⟩ := XG
      have B := below_step (below_alloc3 _ _ _ _) B1 (Nat.le_refl _)
      clear B1
      go_wp2_with fail
      refine (specRow_any G b r _).mono ?_
      rintro e w2 ⟨rfl, B2⟩
      rw [k2]
      go_wp2_with fail
      go_ret
      exact ⟨by rw [HG.out]; rfl, below_step B B2 (Nat.le_refl _)⟩
    | true =>
      rw [k2] at hgo
      obtain ⟨i, hi, m0, m1, r0, r1, i1, i2⟩ := row_idx k1 k2
      rw [hi, Int.toNat_natCast] at hgo
      have HG := hid hgo
      have HI := hid hi
      clear hgo hi
      have hsa : A.s0 = A.s0 := rfl
      go_enter Try.func30, Try.ntmps30
      go_wp2_with fail
      refine (specArrayOk_any G A _ (HA.out.old (below_alloc3 _ _ _ _)) HS.out).mono ?_
      rintro e w1 ⟨rfl, B1⟩
      rw [k1]
      obtain ⟨hlt, c0, c1, c2, c3⟩ := (((BoxG.new_ w 37 G rfl).old (below_alloc _ _)).old (below_alloc _ _)).old B1
      obtain ⟨hltl, l0, l1⟩ := ((BoxL.new_ (w.alloc _) 52 la lh (show _ = w.heap.size + 1 by simp)).old (below_alloc _ _)).old B1
      obtain ⟨hlta, x0, x1, x2⟩ := (BoxR.new_ ((w.alloc _).alloc _) 41 A (show _ = w.heap.size + 1 + 1 by simp)).old B1
      have B := below_step (below_alloc3 _ _ _ _) B1 (Nat.le_refl _)
      clear B1
      go_wp2_with fail
      refine (specRow_any G b r _).mono ?_
      rintro e w2 ⟨rfl, B2⟩
      rw [k2]
      have c0' := (B2.cell (p := ⟨w.heap.size, 0, none⟩) hlt).trans c0
      have c1' := (B2.cell (p := ⟨w.heap.size, 1, none⟩) hlt).trans c1
      have c2' := (B2.cell (p := ⟨w.heap.size, 2, none⟩) hlt).trans c2
      have c3' := (B2.cell (p := ⟨w.heap.size, 3, none⟩) hlt).trans c3
      have l0' := (B2.cell (p := ⟨w.heap.size + 1, 0, none⟩) hltl).trans l0
      have l1' := (B2.cell (p := ⟨w.heap.size + 1, 1, none⟩) hltl).trans l1
      have x0' := (B2.cell (p := ⟨w.heap.size + 1 + 1, 0, none⟩) hlta).trans x0
      have x1' := (B2.cell (p := ⟨w.heap.size + 1 + 1, 1, none⟩) hlta).trans x1
      have x2' := (B2.cell (p := ⟨w.heap.size + 1 + 1, 2, none⟩) hlta).trans x2
      have HB := hid (below_step B B2 (Nat.le_refl _))
      clear c0 c1 c2 c3 l0 l1 x0 x1 x2 B2 B hsa
      go_wp2_with fail
      first | rw [HI.out] | skip
      refine (specGone_any G la lh A i _ (HA.out.old HB.out) i1 i2).mono ?_
      rintro e w3 ⟨rfl, B3⟩
      go_wp2_with fail
      go_ret
      exact ⟨by rw [HG.out]; simp, below_step HB.out B3 (Nat.le_refl _)⟩
end Go.Proofs.Ytnfkkkjookfdiaa
