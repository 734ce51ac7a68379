/- Copies of arrays. -/
import Derived.Test.YtnfkkkjookfdiaaCpR
import Derived.Deep.RegionLaw
namespace Go.Proofs.Ytnfkkkjookfdiaa
open Go.RowKit
set_option maxRecDepth 100000 in
theorem implCopyArray_any (A : ArrE) (w : World) (hA : ArrR w A) (hs : A.d.small) :
    Calls Try.prog 94 #[.agg #[.slice A.s0.a A.s0.n A.s0.c, .slice A.s1.a A.s1.n A.s1.c, .slice A.s2.a A.s2.n A.s2.c]] w fun e w' => ∃ A' : ArrE, e = .returned (.agg #[.slice A'.s0.a A'.s0.n A'.s0.c, .slice A'.s1.a A'.s1.n A'.s1.c, .slice A'.s2.a A'.s2.n A'.s2.c]) ∧ OwnA w' w.heap.size w'.heap.size A' ∧ A'.d = A.d ∧ Below w.heap.size w w' := by
  have h1 := hs.age
  have h2 := hs.hits
  have l1 := hid hA.lage
  have l2 := hid hA.lhits
  have hn0 := hA.n0 hs
  have h1' : A.s1.n ≤ 1048576 := by rw [l1.out]; exact h1
  have h2' : A.s2.n ≤ 1048576 := by rw [l2.out]; exact h2
  have HA := hid hA
  have HS := hid hs
  have hcl := hA.cells
  generalize A.s0.a = sa at hcl ⊢
  have HCL := hid hcl
  clear hA hs hcl
  go_enter Try.func94, Try.ntmps94
  go_wp2_with fail
  refine wp_world (fun W hw => ?_)
  have bW : Below w.heap.size w W := by rw [hw.out]; exact below_alloc2 _ _ _
  have hsz : W.heap.size = w.heap.size + 2 := by rw [hw.out]; simp
  have xb : ∀ j, W.cell? ⟨w.heap.size, j, none⟩ = [Value.slice sa A.s0.n A.s0.c, .slice A.s1.a A.s1.n A.s1.c, .slice A.s2.a A.s2.n A.s2.c][j]? := fun j => by
    rw [hw.out, World.cell?_alloc_lt _ _ _ (by simp)]; exact box_at w [Value.slice sa A.s0.n A.s0.c, .slice A.s1.a A.s1.n A.s1.c, .slice A.s2.a A.s2.n A.s2.c] _ j
  have xr : ∀ j, W.cell? ⟨w.heap.size + 1, j, none⟩ = [Value.slice none 0 0, .slice none 0 0, .slice none 0 0][j]? := fun j => by
    rw [hw.out]
    simp
  have fr : ∀ j, W.frozen? ⟨w.heap.size + 1, j, none⟩ = false := fun j => by rw [hw.out]; simp
  have HXB := hid xb
  have HXR := hid xr
  have HFR := hid fr
  have HBW := hid bW
  have HSZ := hid hsz
  clear hw xb xr fr bW hsz
  refine wp_region_inv (fun L a w' => ∃ u3 u6 u7 u8 u9 u10 u11 u12 u13 u14 : Value, a = ⟨#[.agg #[.slice sa A.s0.n A.s0.c, .slice A.s1.a A.s1.n A.s1.c, .slice A.s2.a A.s2.n A.s2.c], .pointer (some ⟨w.heap.size, 0, none⟩), .pointer (some ⟨w.heap.size + 1, 0, none⟩), u3, undef, undef, u6, u7, u8, u9, u10, u11, u12, u13, u14, undef, undef, undef, undef, undef, undef, undef, undef, undef, undef, undef, undef, undef, undef, undef, undef], []⟩ ∧ CpR W w.heap.size A L u3 u6 u7 u8 u9 u10 u11 u12 u13 u14 w') (by kernel_rfl) (by kernel_rfl) ?_ ?_ ?_
  · refine ⟨undef, undef, undef, undef, undef, undef, undef, undef, undef, undef, rfl, below_ofDrewN _ _ 1, ?_, ?_, ?_, ?_, ?_, ?_, ?_, ?_, ?_, ?_, ?_⟩
    all_goals (intro h; cases h)
  · intro L a w' i o hJ ho hL hd
    obtain ⟨u3, u6, u7, u8, u9, u10, u11, u12, u13, u14, rfl, hJ⟩ := hJ
    have hJB := hJ.bel
    match i, ho, hL with
    | 0, ho, hL =>
      simp only [List.getElem?_cons_zero, Option.some.injEq] at ho
      subst ho
      rw [if_pos (by rfl)]
      generalize hK : (fun a w' => _ : Act → World → Prop) = K
      go_simp
      rw [← hK]
      exact ⟨_, _, _, _, _, _, _, _, _, _, rfl, (hJ.old (below_alloc _ _)).s0 hL w'.heap.size⟩
    
    | 1, ho, hL =>
      simp only [List.getElem?_cons_succ, List.getElem?_cons_zero, Option.some.injEq] at ho
      subst ho
      rw [if_pos (by rfl)]
      generalize hK : (fun a w' => _ : Act → World → Prop) = K
      go_simp
      rw [← hK]
      exact ⟨_, _, _, _, _, _, _, _, _, _, rfl, hJ.s1 hL⟩
    
    | 2, ho, hL =>
      simp only [List.getElem?_cons_succ, List.getElem?_cons_zero, Option.some.injEq] at ho
      subst ho
      rw [if_pos (by rfl)]
      obtain rfl := hJ.f1 (dep_of hd 1 (by kernel_rfl))
      have hc : w'.cell? ⟨w.heap.size, 1, none⟩ = some (.slice A.s1.a A.s1.n A.s1.c) := (hJB.cell (p := ⟨w.heap.size, 1, none⟩) (by have := HSZ.out; show w.heap.size < _; omega)).trans (HXB.out 1)
      generalize hK : (fun a w' => _ : Act → World → Prop) = K
      go_simp
      rw [← hK]
      exact ⟨_, _, _, _, _, _, _, _, _, _, rfl, hJ.s2 hL⟩
    
    | 3, ho, hL =>
      simp only [List.getElem?_cons_succ, List.getElem?_cons_zero, Option.some.injEq] at ho
      subst ho
      rw [if_pos (by rfl)]
      obtain ⟨g, rfl⟩ := hJ.f0 (dep_of hd 0 (by kernel_rfl))
      obtain rfl := hJ.f2 (dep_of hd 2 (by kernel_rfl))
      generalize hK : (fun a w' => _ : Act → World → Prop) = K
      refine wp_append_copy _ _ rfl w' g rfl _ _ _ A.age ((HA.out.age.old HBW.out).old hJB) l1.out rfl (by omega) ?_
      intro a' c' w2 S2 B2
      rw [← hK]
      exact ⟨_, _, _, _, _, _, _, _, _, _, rfl, (hJ.old B2).s3 hL (S2.mono hJB.size)⟩
    
    | 4, ho, hL =>
      simp only [List.getElem?_cons_succ, List.getElem?_cons_zero, Option.some.injEq] at ho
      subst ho
      rw [if_pos (by rfl)]
      generalize hK : (fun a w' => _ : Act → World → Prop) = K
      go_simp
      rw [← hK]
      exact ⟨_, _, _, _, _, _, _, _, _, _, rfl, (hJ.old (below_alloc _ _)).s4 hL w'.heap.size⟩
    
    | 5, ho, hL =>
      simp only [List.getElem?_cons_succ, List.getElem?_cons_zero, Option.some.injEq] at ho
      subst ho
      rw [if_pos (by rfl)]
      generalize hK : (fun a w' => _ : Act → World → Prop) = K
      go_simp
      rw [← hK]
      exact ⟨_, _, _, _, _, _, _, _, _, _, rfl, hJ.s5 hL⟩
    
    | 6, ho, hL =>
      simp only [List.getElem?_cons_succ, List.getElem?_cons_zero, Option.some.injEq] at ho
      subst ho
      rw [if_pos (by rfl)]
      obtain rfl := hJ.f5 (dep_of hd 5 (by kernel_rfl))
      have hc : w'.cell? ⟨w.heap.size, 2, none⟩ = some (.slice A.s2.a A.s2.n A.s2.c) := (hJB.cell (p := ⟨w.heap.size, 2, none⟩) (by have := HSZ.out; show w.heap.size < _; omega)).trans (HXB.out 2)
      generalize hK : (fun a w' => _ : Act → World → Prop) = K
      go_simp
      rw [← hK]
      exact ⟨_, _, _, _, _, _, _, _, _, _, rfl, hJ.s6 hL⟩
    
    | 7, ho, hL =>
      simp only [List.getElem?_cons_succ, List.getElem?_cons_zero, Option.some.injEq] at ho
      subst ho
      rw [if_pos (by rfl)]
      obtain ⟨g, rfl⟩ := hJ.f4 (dep_of hd 4 (by kernel_rfl))
      obtain rfl := hJ.f6 (dep_of hd 6 (by kernel_rfl))
      have h3 : L 3 = true := dep_of hd 3 (by kernel_rfl)
      obtain ⟨a9, c9, rfl, S9⟩ := hJ.f3 h3
      generalize hK : (fun a w' => _ : Act → World → Prop) = K
      refine wp_append_copy _ _ rfl w' g rfl _ _ _ A.hits ((HA.out.hits.old HBW.out).old hJB) l2.out rfl (by omega) ?_
      intro a' c' w2 S2 B2
      rw [← hK]
      exact ⟨_, _, _, _, _, _, _, _, _, _, rfl, (hJ.old B2).s7 hL h3 rfl (S2.mono hJB.size) (fun b hb hb' => by have := (S9.lt hb).2; have := (S2.lt hb').1; omega)⟩
    
    | 8, ho, hL =>
      simp only [List.getElem?_cons_succ, List.getElem?_cons_zero, Option.some.injEq] at ho
      subst ho
      rw [if_pos (by rfl)]
      have h7 : L 7 = true := dep_of hd 7 (by kernel_rfl)
      obtain ⟨_, a9, c9, a13, c13, rfl, rfl, _, _⟩ := hJ.f7 h7
      generalize hK : (fun a w' => _ : Act → World → Prop) = K
      go_simp
      rw [← hK]
      exact ⟨_, _, _, _, _, _, _, _, _, _, rfl, hJ.s8 hL h7⟩
    
    | 9, ho, hL =>
      simp only [List.getElem?_cons_succ, List.getElem?_cons_zero, Option.some.injEq] at ho
      subst ho
      rw [if_pos (by rfl)]
      generalize hK : (fun a w' => _ : Act → World → Prop) = K
      go_simp
      rw [← hK]
      exact ⟨_, _, _, _, _, _, _, _, _, _, rfl, (hJ.old (below_alloc _ _)).s9 hL hJB.size (heap_alloc_new _ _)⟩
    
    | 10, ho, hL =>
      simp only [List.getElem?_cons_succ, List.getElem?_cons_zero, Option.some.injEq] at ho
      subst ho
      rw [if_pos (by rfl)]
      have hall : ∀ i, i < 10 → L i = true := by
        intro j hj
        match j, hj with
        | 0, _ => exact dep_of hd 0 (by kernel_rfl)
        | 1, _ => exact dep_of hd 1 (by kernel_rfl)
        | 2, _ => exact dep_of hd 2 (by kernel_rfl)
        | 3, _ => exact dep_of hd 3 (by kernel_rfl)
        | 4, _ => exact dep_of hd 4 (by kernel_rfl)
        | 5, _ => exact dep_of hd 5 (by kernel_rfl)
        | 6, _ => exact dep_of hd 6 (by kernel_rfl)
        | 7, _ => exact dep_of hd 7 (by kernel_rfl)
        | 8, _ => exact dep_of hd 8 (by kernel_rfl)
        | 9, _ => exact dep_of hd 9 (by kernel_rfl)
      obtain ⟨g, a9, c9, a13, c13, rfl, rfl, rfl, rfl, hg, hlt, hh, H10⟩ := hJ.s10 hL hall
      have k0 := cell_of_row w' g 0 _ 41 (0, 0) hh
      have k1 := cell_of_row w' g 1 _ 41 (0, 0) hh
      have k2 := cell_of_row w' g 2 _ 41 (0, 0) hh
      have ff := fun j => frozen_of_row w' g j _ 41 hh
      simp at k0 k1 k2
      generalize hK : (fun a w' => _ : Act → World → Prop) = K
      go_simp
      rw [← hK]
      exact ⟨_, _, _, _, _, _, _, _, _, _, rfl, H10⟩
    | n + 11, ho, _ => simp at ho
  · intro L a w' hJ hall
    obtain ⟨u3, u6, u7, u8, u9, u10, u11, u12, u13, u14, rfl, hJ⟩ := hJ
    obtain ⟨_, g, rfl, hg, hh⟩ := hJ.f10 (hall 10 (by decide))
    obtain ⟨_, a1, c1, a2, c2, rfl, rfl, S2, hdis⟩ := hJ.f7 (hall 7 (by decide))
    obtain ⟨a1', c1', e9, S1⟩ := hJ.f3 (hall 3 (by decide))
    simp only [Value.slice.injEq, true_and] at e9
    obtain ⟨rfl, rfl⟩ := e9
    have B := hJ.bel
    have hb0 : w'.cell? ⟨w.heap.size, 0, none⟩ = some (.slice sa A.s0.n A.s0.c) := (B.cell (p := ⟨w.heap.size, 0, none⟩) (by have := HSZ.out; show w.heap.size < _; omega)).trans (HXB.out 0)
    have C0 : CpS W A g a1 c1 a2 c2 0 none 0 [] w' := ⟨B, hg, hh, OwnC.none_ _ _ B.size, rfl, S1, S2, hdis, fun i e he => by simp at he, fun i e he => by simp at he⟩
    have HC0 := hid C0
    clear hJ B S1 S2 hdis hall C0 hg hh
    go_wp2_with fail
    go_loopw [18] (fun i wr => ∃ (k : Nat) (a0 : Option Addr) (c0 : Nat) (es : List CellE), k ≤ A.s0.n ∧ i = .int .i64 k ∧ Hid (CpS W A g a1 c1 a2 c2 k a0 c0 es wr)) (fun i _ => A.s0.n - (intOf i).toNat)
    case atStart => exact ⟨0, none, 0, [], Nat.zero_le _, rfl, HC0⟩
    case round =>
      clear HC0 hb0
      obtain ⟨k, a0, c0, es, hk, rfl, HC⟩ := hrel
      by_cases hlt : k < A.s0.n
      · obtain ⟨e, b1, o1, he, ha1, hb1, hc0, hc1, hr, hen, _⟩ := ((HCL.out.old HBW.out).old HC.out.bel).at_ hlt
        subst ha1
        have HE := hid he
        have HEN := hid hen
        have HR := hid hr
        have hel := HS.out.es k e he
        have k0 := cell_of_row wr g 0 _ 41 (0, 0) HC.out.blk
        simp only [List.getElem?_toArray, List.getElem?_cons_zero] at k0
        have hglt := lt_of_heap HC.out.blk
        clear he hen hr
        have hki : (0 : Int) ≤ (k : Int) := by omega
        have hkn : (k : Int) < (A.s0.n : Int) := by omega
        go_wp2_with fail
        refine wp_world (fun wa hwa => ?_)
        have ba : Below wr.heap.size wr wa := by rw [hwa.out]; exact below_alloc _ _
        have hza : wa.heap.size = wr.heap.size + 1 := by rw [hwa.out]; simp
        have m0 : wa.cell? ⟨g, 0, none⟩ = some (.slice a0 k c0) := (ba.cell (p := ⟨g, 0, none⟩) hglt).trans k0
        have m1 : wa.cell? ⟨wr.heap.size, 0, none⟩ = some (.slice e.a e.n e.c) := by rw [hwa.out]; exact box_at wr [Value.slice e.a e.n e.c, .bool e.p] _ 0
        have m2 : wa.cell? ⟨wr.heap.size, 1, none⟩ = some (.bool e.p) := by rw [hwa.out]; exact box_at wr [Value.slice e.a e.n e.c, .bool e.p] _ 1
        have HZA := hid hza
        have HBA := hid ba
        have HGL := hid hglt
        clear hwa k0 hc0 hc1 hza ba hglt
        go_region_law (first
          | (refine step_append_rec recC (by rfl) _ _ (by rfl) w1 W.heap.size wr.heap.size a0 k c0 es ((HC.out.own.old HBA.out).old ((below_ofDrewN _ _ 1).trans (hB.out.mono (by simp)))).row (by rfl) ⟨a', e.n, c', e.xs, e.p⟩ _ (by rfl) (by rfl) (by have := HC.out.bel.size; have := HBA.out.size; have := hB.out.size; simp at this; omega) (by omega) ?_; intro a0' c0' w2 hrow hk2; have own1 := (HC.out.own.old HBA.out).old ((below_ofDrewN _ _ 1).trans (hB.out.mono (by simp))); have bl1 := ((below_ofDrewN _ wa 1).trans (hB.out.mono (by simp))).block g (Nat.lt_of_lt_of_le HGL.out HBA.out.size) |>.trans ((HBA.out.block g HGL.out).trans HC.out.blk); have bl2 := (hk2.block g (lt_of_heap bl1) (row_not own1.row bl1 (by decide))).trans bl1; have q2 := cell_of_row w2 g 0 _ 41 (0, 0) bl2; have f2 := frozen_of_row w2 g 0 _ 41 bl2; simp only [List.getElem?_toArray, List.getElem?_cons_zero] at q2; clear bl1 bl2 own1; have HRW := hid hrow; have HK2 := hid hk2; clear hrow hk2)
          | (rw [if_pos (by rfl)]; go_simp; refine (implCopyCell_any _ _ _ _ _ _ ((HR.out.old HBA.out).drewN 1) HEN.out hel).mono ?_; rintro e1 w1 ⟨a', c', rfl, R, B⟩; have q0 := (B.cell (p := ⟨g, 0, none⟩) (by have := HGL.out; have := HZA.out; simp; omega)).trans m0; have gl1 : g < w1.heap.size := World.block_lt_of_cell? w1 _ q0; have hB := hid B; have hRR := hid R; clear R B; dsimp only))
        all_goals
          have C3 := HC.out.step (y := ⟨a', e.n, c', e.xs, e.p⟩) HE.out rfl (below_step HBA.out ((below_ofDrewN _ wa 1).trans (hB.out.mono (by simp))) (Nat.le_refl _)) (hRR.out.mono (by have := HBA.out.size; simp; omega)) HRW.out HK2.out rfl
          have HC3 := hid C3
          clear C3 HC HRW HK2 hB hRR m0 m1 m2 q0 q2 f2
          go_wp2
          go_roundw
          case rel => exact ⟨k + 1, _, _, _, by omega, by go_num, HC3⟩
          case measure => simp [intOf]; omega
      · have hkn : k = A.s0.n := by omega
        subst hkn
        have hblk := HC.out.blk
        have k0 := cell_of_row wr g 0 _ 41 (0, 0) hblk
        have k1 := cell_of_row wr g 1 _ 41 (0, 0) hblk
        have k2 := cell_of_row wr g 2 _ 41 (0, 0) hblk
        have ff := fun j => frozen_of_row wr g j _ 41 hblk
        simp only [List.getElem?_toArray, List.getElem?_cons_zero, List.getElem?_cons_succ] at k0 k1 k2
        have B := HC.out.bel
        have hlt1 : w.heap.size + 1 < W.heap.size := by have := HSZ.out; omega
        have r0 : wr.cell? ⟨w.heap.size + 1, 0, none⟩ = some (.slice none 0 0) := (B.cell (p := ⟨w.heap.size + 1, 0, none⟩) hlt1).trans (HXR.out 0)
        have r1 : wr.cell? ⟨w.heap.size + 1, 1, none⟩ = some (.slice none 0 0) := (B.cell (p := ⟨w.heap.size + 1, 1, none⟩) hlt1).trans (HXR.out 1)
        have r2 : wr.cell? ⟨w.heap.size + 1, 2, none⟩ = some (.slice none 0 0) := (B.cell (p := ⟨w.heap.size + 1, 2, none⟩) hlt1).trans (HXR.out 2)
        have g0 : wr.frozen? ⟨w.heap.size + 1, 0, none⟩ = false := (B.frozen (p := ⟨w.heap.size + 1, 0, none⟩) hlt1).trans (HFR.out 0)
        have g1 : wr.frozen? ⟨w.heap.size + 1, 1, none⟩ = false := (B.frozen (p := ⟨w.heap.size + 1, 1, none⟩) hlt1).trans (HFR.out 1)
        have g2 : wr.frozen? ⟨w.heap.size + 1, 2, none⟩ = false := (B.frozen (p := ⟨w.heap.size + 1, 2, none⟩) hlt1).trans (HFR.out 2)
        have K : Keeps (fun b => b = w.heap.size + 1) wr (((wr.setCell ⟨w.heap.size + 1, 0, none⟩ (.slice a0 A.s0.n c0)).setCell ⟨w.heap.size + 1, 1, none⟩ (.slice a1 A.s1.n c1)).setCell ⟨w.heap.size + 1, 2, none⟩ (.slice a2 A.s2.n c2)) :=
          (((Keeps.refl (fun b => b = w.heap.size + 1) wr).set ⟨w.heap.size + 1, 0, none⟩ _ rfl).set ⟨w.heap.size + 1, 1, none⟩ _ rfl).set ⟨w.heap.size + 1, 2, none⟩ _ rfl
        have HK := hid K
        have hne : g ≠ w.heap.size + 1 := by have := HC.out.lo; omega
        clear hblk B K
        go_wp2
        refine bodyPost_ret (v := .agg #[.slice a0 A.s0.n c0, .slice a1 A.s1.n c1, .slice a2 A.s2.n c2]) (by simp [results, Try.results94, go_sem, r0, r1, r2]) rfl ⟨⟨⟨a0, A.s0.n, c0⟩, ⟨a1, A.s1.n, c1⟩, ⟨a2, A.s2.n, c2⟩, es, A.age, A.hits⟩, rfl, ?_, ?_, ?_⟩
        · have hK := HK.out
          have hC := HC.out
          have hs := hK.size
          have hsz := HSZ.out
          have hle := hC.bel.size
          refine ⟨((hC.own.keeps hK (fun b hb hS => by have := hb.1; omega)).up hs (Nat.le_refl _)).mono (by omega), (hC.s1.keeps hK (fun b hb hS => by have := (hC.s1.lt hb).1; omega)).mono (by omega), (hC.s2.keeps hK (fun b hb hS => by have := (hC.s2.lt hb).1; omega)).mono (by omega), fun b hb => ?_, fun b hb => ?_, hC.d12, hC.d01, hC.d02⟩
          · have := (hC.s1.lt hb).2; omega
          · have := (hC.s2.lt hb).2; omega
        · show (⟨es.map CellE.d, A.age, A.hits⟩ : ArrD) = ⟨A.es.map CellE.d, A.age, A.hits⟩
          rw [HC.out.data, List.take_of_length_le (by have := HCL.out.len; omega)]
        · exact (HBW.out.trans (HC.out.bel.mono (by have := HSZ.out; omega))).trans (HK.out.below (by have := HSZ.out; have := HC.out.bel.size; omega) (fun q hq hS => by omega))
set_option maxRecDepth 100000 in
theorem specCopyArray_any (A : ArrE) (w : World) (hA : ArrR w A) (hs : A.d.small) :
    Calls Try.prog 92 #[.agg #[.slice A.s0.a A.s0.n A.s0.c, .slice A.s1.a A.s1.n A.s1.c, .slice A.s2.a A.s2.n A.s2.c]] w fun e w' => ∃ A' : ArrE, e = .returned (.agg #[.slice A'.s0.a A'.s0.n A'.s0.c, .slice A'.s1.a A'.s1.n A'.s1.c, .slice A'.s2.a A'.s2.n A'.s2.c]) ∧ OwnA w' w.heap.size w'.heap.size A' ∧ A'.d = A.d ∧ Below w.heap.size w w' := by
  have h1 := hs.age
  have h2 := hs.hits
  have l1 := hid hA.lage
  have l2 := hid hA.lhits
  have hn0 := hA.n0 hs
  have h1' : A.s1.n ≤ 1048576 := by rw [l1.out]; exact h1
  have h2' : A.s2.n ≤ 1048576 := by rw [l2.out]; exact h2
  have HA := hid hA
  have HS := hid hs
  have hcl := hA.cells
  generalize A.s0.a = sa at hcl ⊢
  have HCL := hid hcl
  clear hA hs hcl
  go_enter Try.func92, Try.ntmps92
  go_wp2_with fail
  refine wp_world (fun W hw => ?_)
  have bW : Below w.heap.size w W := by rw [hw.out]; exact below_alloc2 _ _ _
  have hsz : W.heap.size = w.heap.size + 2 := by rw [hw.out]; simp
  have xb : ∀ j, W.cell? ⟨w.heap.size, j, none⟩ = [Value.slice sa A.s0.n A.s0.c, .slice A.s1.a A.s1.n A.s1.c, .slice A.s2.a A.s2.n A.s2.c][j]? := fun j => by
    rw [hw.out, World.cell?_alloc_lt _ _ _ (by simp)]; exact box_at w [Value.slice sa A.s0.n A.s0.c, .slice A.s1.a A.s1.n A.s1.c, .slice A.s2.a A.s2.n A.s2.c] _ j
  have xr : ∀ j, W.cell? ⟨w.heap.size + 1, j, none⟩ = [Value.slice none 0 0, .slice none 0 0, .slice none 0 0][j]? := fun j => by
    rw [hw.out]
    simp
  have fr : ∀ j, W.frozen? ⟨w.heap.size + 1, j, none⟩ = false := fun j => by rw [hw.out]; simp
  have HXB := hid xb
  have HXR := hid xr
  have HFR := hid fr
  have HBW := hid bW
  have HSZ := hid hsz
  clear hw xb xr fr bW hsz
  refine wp_region_inv (fun L a w' => ∃ u3 u6 u7 u8 u9 u10 u11 u12 u13 u14 : Value, a = ⟨#[.agg #[.slice sa A.s0.n A.s0.c, .slice A.s1.a A.s1.n A.s1.c, .slice A.s2.a A.s2.n A.s2.c], .pointer (some ⟨w.heap.size, 0, none⟩), .pointer (some ⟨w.heap.size + 1, 0, none⟩), u3, undef, u6, u7, u8, u9, u10, u11, u12, u13, u14, undef, undef, undef, undef, undef, undef, undef, undef, undef, undef, undef, undef, undef, undef, undef, undef, undef, undef, undef], []⟩ ∧ CpR W w.heap.size A L u3 u6 u7 u8 u9 u10 u11 u12 u13 u14 w') (by kernel_rfl) (by kernel_rfl) ?_ ?_ ?_
  · refine ⟨undef, undef, undef, undef, undef, undef, undef, undef, undef, undef, rfl, below_ofDrewN _ _ 1, ?_, ?_, ?_, ?_, ?_, ?_, ?_, ?_, ?_, ?_, ?_⟩
    all_goals (intro h; cases h)
  · intro L a w' i o hJ ho hL hd
    obtain ⟨u3, u6, u7, u8, u9, u10, u11, u12, u13, u14, rfl, hJ⟩ := hJ
    have hJB := hJ.bel
    match i, ho, hL with
    | 0, ho, hL =>
      simp only [List.getElem?_cons_zero, Option.some.injEq] at ho
      subst ho
      rw [if_pos (by rfl)]
      generalize hK : (fun a w' => _ : Act → World → Prop) = K
      go_simp
      rw [← hK]
      exact ⟨_, _, _, _, _, _, _, _, _, _, rfl, (hJ.old (below_alloc _ _)).s0 hL w'.heap.size⟩
    
    | 1, ho, hL =>
      simp only [List.getElem?_cons_succ, List.getElem?_cons_zero, Option.some.injEq] at ho
      subst ho
      rw [if_pos (by rfl)]
      generalize hK : (fun a w' => _ : Act → World → Prop) = K
      go_simp
      rw [← hK]
      exact ⟨_, _, _, _, _, _, _, _, _, _, rfl, hJ.s1 hL⟩
    
    | 2, ho, hL =>
      simp only [List.getElem?_cons_succ, List.getElem?_cons_zero, Option.some.injEq] at ho
      subst ho
      rw [if_pos (by rfl)]
      obtain rfl := hJ.f1 (dep_of hd 1 (by kernel_rfl))
      have hc : w'.cell? ⟨w.heap.size, 1, none⟩ = some (.slice A.s1.a A.s1.n A.s1.c) := (hJB.cell (p := ⟨w.heap.size, 1, none⟩) (by have := HSZ.out; show w.heap.size < _; omega)).trans (HXB.out 1)
      generalize hK : (fun a w' => _ : Act → World → Prop) = K
      go_simp
      rw [← hK]
      exact ⟨_, _, _, _, _, _, _, _, _, _, rfl, hJ.s2 hL⟩
    
    | 3, ho, hL =>
      simp only [List.getElem?_cons_succ, List.getElem?_cons_zero, Option.some.injEq] at ho
      subst ho
      rw [if_pos (by rfl)]
      obtain ⟨g, rfl⟩ := hJ.f0 (dep_of hd 0 (by kernel_rfl))
      obtain rfl := hJ.f2 (dep_of hd 2 (by kernel_rfl))
      generalize hK : (fun a w' => _ : Act → World → Prop) = K
      refine wp_append_copy _ _ rfl w' g rfl _ _ _ A.age ((HA.out.age.old HBW.out).old hJB) l1.out rfl (by omega) ?_
      intro a' c' w2 S2 B2
      rw [← hK]
      exact ⟨_, _, _, _, _, _, _, _, _, _, rfl, (hJ.old B2).s3 hL (S2.mono hJB.size)⟩
    
    | 4, ho, hL =>
      simp only [List.getElem?_cons_succ, List.getElem?_cons_zero, Option.some.injEq] at ho
      subst ho
      rw [if_pos (by rfl)]
      generalize hK : (fun a w' => _ : Act → World → Prop) = K
      go_simp
      rw [← hK]
      exact ⟨_, _, _, _, _, _, _, _, _, _, rfl, (hJ.old (below_alloc _ _)).s4 hL w'.heap.size⟩
    
    | 5, ho, hL =>
      simp only [List.getElem?_cons_succ, List.getElem?_cons_zero, Option.some.injEq] at ho
      subst ho
      rw [if_pos (by rfl)]
      generalize hK : (fun a w' => _ : Act → World → Prop) = K
      go_simp
      rw [← hK]
      exact ⟨_, _, _, _, _, _, _, _, _, _, rfl, hJ.s5 hL⟩
    
    | 6, ho, hL =>
      simp only [List.getElem?_cons_succ, List.getElem?_cons_zero, Option.some.injEq] at ho
      subst ho
      rw [if_pos (by rfl)]
      obtain rfl := hJ.f5 (dep_of hd 5 (by kernel_rfl))
      have hc : w'.cell? ⟨w.heap.size, 2, none⟩ = some (.slice A.s2.a A.s2.n A.s2.c) := (hJB.cell (p := ⟨w.heap.size, 2, none⟩) (by have := HSZ.out; show w.heap.size < _; omega)).trans (HXB.out 2)
      generalize hK : (fun a w' => _ : Act → World → Prop) = K
      go_simp
      rw [← hK]
      exact ⟨_, _, _, _, _, _, _, _, _, _, rfl, hJ.s6 hL⟩
    
    | 7, ho, hL =>
      simp only [List.getElem?_cons_succ, List.getElem?_cons_zero, Option.some.injEq] at ho
      subst ho
      rw [if_pos (by rfl)]
      obtain ⟨g, rfl⟩ := hJ.f4 (dep_of hd 4 (by kernel_rfl))
      obtain rfl := hJ.f6 (dep_of hd 6 (by kernel_rfl))
      have h3 : L 3 = true := dep_of hd 3 (by kernel_rfl)
      obtain ⟨a9, c9, rfl, S9⟩ := hJ.f3 h3
      generalize hK : (fun a w' => _ : Act → World → Prop) = K
      refine wp_append_copy _ _ rfl w' g rfl _ _ _ A.hits ((HA.out.hits.old HBW.out).old hJB) l2.out rfl (by omega) ?_
      intro a' c' w2 S2 B2
      rw [← hK]
      exact ⟨_, _, _, _, _, _, _, _, _, _, rfl, (hJ.old B2).s7 hL h3 rfl (S2.mono hJB.size) (fun b hb hb' => by have := (S9.lt hb).2; have := (S2.lt hb').1; omega)⟩
    
    | 8, ho, hL =>
      simp only [List.getElem?_cons_succ, List.getElem?_cons_zero, Option.some.injEq] at ho
      subst ho
      rw [if_pos (by rfl)]
      have h7 : L 7 = true := dep_of hd 7 (by kernel_rfl)
      obtain ⟨_, a9, c9, a13, c13, rfl, rfl, _, _⟩ := hJ.f7 h7
      generalize hK : (fun a w' => _ : Act → World → Prop) = K
      go_simp
      rw [← hK]
      exact ⟨_, _, _, _, _, _, _, _, _, _, rfl, hJ.s8 hL h7⟩
    
    | 9, ho, hL =>
      simp only [List.getElem?_cons_succ, List.getElem?_cons_zero, Option.some.injEq] at ho
      subst ho
      rw [if_pos (by rfl)]
      generalize hK : (fun a w' => _ : Act → World → Prop) = K
      go_simp
      rw [← hK]
      exact ⟨_, _, _, _, _, _, _, _, _, _, rfl, (hJ.old (below_alloc _ _)).s9 hL hJB.size (heap_alloc_new _ _)⟩
    
    | 10, ho, hL =>
      simp only [List.getElem?_cons_succ, List.getElem?_cons_zero, Option.some.injEq] at ho
      subst ho
      rw [if_pos (by rfl)]
      have hall : ∀ i, i < 10 → L i = true := by
        intro j hj
        match j, hj with
        | 0, _ => exact dep_of hd 0 (by kernel_rfl)
        | 1, _ => exact dep_of hd 1 (by kernel_rfl)
        | 2, _ => exact dep_of hd 2 (by kernel_rfl)
        | 3, _ => exact dep_of hd 3 (by kernel_rfl)
        | 4, _ => exact dep_of hd 4 (by kernel_rfl)
        | 5, _ => exact dep_of hd 5 (by kernel_rfl)
        | 6, _ => exact dep_of hd 6 (by kernel_rfl)
        | 7, _ => exact dep_of hd 7 (by kernel_rfl)
        | 8, _ => exact dep_of hd 8 (by kernel_rfl)
        | 9, _ => exact dep_of hd 9 (by kernel_rfl)
      obtain ⟨g, a9, c9, a13, c13, rfl, rfl, rfl, rfl, hg, hlt, hh, H10⟩ := hJ.s10 hL hall
      have k0 := cell_of_row w' g 0 _ 41 (0, 0) hh
      have k1 := cell_of_row w' g 1 _ 41 (0, 0) hh
      have k2 := cell_of_row w' g 2 _ 41 (0, 0) hh
      have ff := fun j => frozen_of_row w' g j _ 41 hh
      simp at k0 k1 k2
      generalize hK : (fun a w' => _ : Act → World → Prop) = K
      go_simp
      rw [← hK]
      exact ⟨_, _, _, _, _, _, _, _, _, _, rfl, H10⟩
    | n + 11, ho, _ => simp at ho
  · intro L a w' hJ hall
    obtain ⟨u3, u6, u7, u8, u9, u10, u11, u12, u13, u14, rfl, hJ⟩ := hJ
    obtain ⟨_, g, rfl, hg, hh⟩ := hJ.f10 (hall 10 (by decide))
    obtain ⟨_, a1, c1, a2, c2, rfl, rfl, S2, hdis⟩ := hJ.f7 (hall 7 (by decide))
    obtain ⟨a1', c1', e9, S1⟩ := hJ.f3 (hall 3 (by decide))
    simp only [Value.slice.injEq, true_and] at e9
    obtain ⟨rfl, rfl⟩ := e9
    have B := hJ.bel
    have hb0 : w'.cell? ⟨w.heap.size, 0, none⟩ = some (.slice sa A.s0.n A.s0.c) := (B.cell (p := ⟨w.heap.size, 0, none⟩) (by have := HSZ.out; show w.heap.size < _; omega)).trans (HXB.out 0)
    have C0 : CpS W A g a1 c1 a2 c2 0 none 0 [] w' := ⟨B, hg, hh, OwnC.none_ _ _ B.size, rfl, S1, S2, hdis, fun i e he => by simp at he, fun i e he => by simp at he⟩
    have HC0 := hid C0
    clear hJ B S1 S2 hdis hall C0 hg hh
    go_wp2_with fail
    go_loopw [4] (fun i wr => ∃ (k : Nat) (a0 : Option Addr) (c0 : Nat) (es : List CellE), k ≤ A.s0.n ∧ i = .int .i64 k ∧ Hid (CpS W A g a1 c1 a2 c2 k a0 c0 es wr)) (fun i _ => A.s0.n - (intOf i).toNat)
    case atStart => exact ⟨0, none, 0, [], Nat.zero_le _, rfl, HC0⟩
    case round =>
      clear HC0 hb0
      obtain ⟨k, a0, c0, es, hk, rfl, HC⟩ := hrel
      by_cases hlt : k < A.s0.n
      · obtain ⟨e, b1, o1, he, ha1, hb1, hc0, hc1, hr, hen, _⟩ := ((HCL.out.old HBW.out).old HC.out.bel).at_ hlt
        subst ha1
        have HE := hid he
        have HEN := hid hen
        have HR := hid hr
        have hel := HS.out.es k e he
        have k0 := cell_of_row wr g 0 _ 41 (0, 0) HC.out.blk
        simp only [List.getElem?_toArray, List.getElem?_cons_zero] at k0
        have hglt := lt_of_heap HC.out.blk
        clear he hen hr
        have hki : (0 : Int) ≤ (k : Int) := by omega
        have hkn : (k : Int) < (A.s0.n : Int) := by omega
        have hx0 : wr.cell? ⟨w.heap.size, 0, none⟩ = some (.slice (some ⟨b1, o1, none⟩) A.s0.n A.s0.c) := (HC.out.bel.cell (p := ⟨w.heap.size, 0, none⟩) (by have := HSZ.out; show w.heap.size < _; omega)).trans (HXB.out 0)
        go_wp2_with fail
        obtain ⟨wa, hwa⟩ : ∃ wa, wa = wr := ⟨wr, rfl⟩
        have ba : Below wr.heap.size wr wa := by rw [hwa]; exact Below.refl _ _
        have hza : wa.heap.size = wr.heap.size := by rw [hwa]
        have m0 : wa.cell? ⟨g, 0, none⟩ = some (.slice a0 k c0) := (ba.cell (p := ⟨g, 0, none⟩) hglt).trans k0
        rw [← hwa] at hc0 hc1 hx0
        rw [← hwa]
        clear hwa
        have HZA := hid hza
        have HBA := hid ba
        have HGL := hid hglt
        clear k0 hza ba hglt
        go_region_law (first
          | (refine step_append_rec recC (by rfl) _ _ (by rfl) w1 W.heap.size wr.heap.size a0 k c0 es ((HC.out.own.old HBA.out).old ((below_ofDrewN _ _ 1).trans (hB.out.mono (by simp)))).row (by rfl) ⟨a', e.n, c', e.xs, e.p⟩ _ (by rfl) (by rfl) (by have := HC.out.bel.size; have := HBA.out.size; have := hB.out.size; simp at this; omega) (by omega) ?_; intro a0' c0' w2 hrow hk2; have own1 := (HC.out.own.old HBA.out).old ((below_ofDrewN _ _ 1).trans (hB.out.mono (by simp))); have bl1 := ((below_ofDrewN _ wa 1).trans (hB.out.mono (by simp))).block g (Nat.lt_of_lt_of_le HGL.out HBA.out.size) |>.trans ((HBA.out.block g HGL.out).trans HC.out.blk); have bl2 := (hk2.block g (lt_of_heap bl1) (row_not own1.row bl1 (by decide))).trans bl1; have q2 := cell_of_row w2 g 0 _ 41 (0, 0) bl2; have f2 := frozen_of_row w2 g 0 _ 41 bl2; simp only [List.getElem?_toArray, List.getElem?_cons_zero] at q2; clear bl1 bl2 own1; have HRW := hid hrow; have HK2 := hid hk2; clear hrow hk2)
          | (rw [if_pos (by rfl)]; go_simp; refine (specCopyCell_any _ _ _ _ _ _ ((HR.out.old HBA.out).drewN 1) HEN.out hel).mono ?_; rintro e1 w1 ⟨a', c', rfl, R, B⟩; have q0 := (B.cell (p := ⟨g, 0, none⟩) (by have := HGL.out; have := HZA.out; simp; omega)).trans m0; have gl1 : g < w1.heap.size := World.block_lt_of_cell? w1 _ q0; have hB := hid B; have hRR := hid R; clear R B; dsimp only))
        all_goals
          have C3 := HC.out.step (y := ⟨a', e.n, c', e.xs, e.p⟩) HE.out rfl (below_step HBA.out ((below_ofDrewN _ wa 1).trans (hB.out.mono (by simp))) (Nat.le_refl _)) (hRR.out.mono (by have := HBA.out.size; simp; omega)) HRW.out HK2.out rfl
          have HC3 := hid C3
          clear C3 HC HRW HK2 hB hRR m0 hc0 hc1 hb1 hx0 q0 q2 f2
          go_wp2
          go_roundw
          case rel => exact ⟨k + 1, _, _, _, by omega, by go_num, HC3⟩
          case measure => simp [intOf]; omega
      · have hkn : k = A.s0.n := by omega
        subst hkn
        have hx0 : wr.cell? ⟨w.heap.size, 0, none⟩ = some (.slice sa A.s0.n A.s0.c) := (HC.out.bel.cell (p := ⟨w.heap.size, 0, none⟩) (by have := HSZ.out; show w.heap.size < _; omega)).trans (HXB.out 0)
        have hblk := HC.out.blk
        have k0 := cell_of_row wr g 0 _ 41 (0, 0) hblk
        have k1 := cell_of_row wr g 1 _ 41 (0, 0) hblk
        have k2 := cell_of_row wr g 2 _ 41 (0, 0) hblk
        have ff := fun j => frozen_of_row wr g j _ 41 hblk
        simp only [List.getElem?_toArray, List.getElem?_cons_zero, List.getElem?_cons_succ] at k0 k1 k2
        have B := HC.out.bel
        have hlt1 : w.heap.size + 1 < W.heap.size := by have := HSZ.out; omega
        have r0 : wr.cell? ⟨w.heap.size + 1, 0, none⟩ = some (.slice none 0 0) := (B.cell (p := ⟨w.heap.size + 1, 0, none⟩) hlt1).trans (HXR.out 0)
        have r1 : wr.cell? ⟨w.heap.size + 1, 1, none⟩ = some (.slice none 0 0) := (B.cell (p := ⟨w.heap.size + 1, 1, none⟩) hlt1).trans (HXR.out 1)
        have r2 : wr.cell? ⟨w.heap.size + 1, 2, none⟩ = some (.slice none 0 0) := (B.cell (p := ⟨w.heap.size + 1, 2, none⟩) hlt1).trans (HXR.out 2)
        have g0 : wr.frozen? ⟨w.heap.size + 1, 0, none⟩ = false := (B.frozen (p := ⟨w.heap.size + 1, 0, none⟩) hlt1).trans (HFR.out 0)
        have g1 : wr.frozen? ⟨w.heap.size + 1, 1, none⟩ = false := (B.frozen (p := ⟨w.heap.size + 1, 1, none⟩) hlt1).trans (HFR.out 1)
        have g2 : wr.frozen? ⟨w.heap.size + 1, 2, none⟩ = false := (B.frozen (p := ⟨w.heap.size + 1, 2, none⟩) hlt1).trans (HFR.out 2)
        have K : Keeps (fun b => b = w.heap.size + 1) wr (((wr.setCell ⟨w.heap.size + 1, 0, none⟩ (.slice a0 A.s0.n c0)).setCell ⟨w.heap.size + 1, 1, none⟩ (.slice a1 A.s1.n c1)).setCell ⟨w.heap.size + 1, 2, none⟩ (.slice a2 A.s2.n c2)) :=
          (((Keeps.refl (fun b => b = w.heap.size + 1) wr).set ⟨w.heap.size + 1, 0, none⟩ _ rfl).set ⟨w.heap.size + 1, 1, none⟩ _ rfl).set ⟨w.heap.size + 1, 2, none⟩ _ rfl
        have HK := hid K
        have hne : g ≠ w.heap.size + 1 := by have := HC.out.lo; omega
        clear hblk B K
        go_wp2
        refine bodyPost_ret (v := .agg #[.slice a0 A.s0.n c0, .slice a1 A.s1.n c1, .slice a2 A.s2.n c2]) (by simp [results, Try.results92, go_sem, r0, r1, r2]) rfl ⟨⟨⟨a0, A.s0.n, c0⟩, ⟨a1, A.s1.n, c1⟩, ⟨a2, A.s2.n, c2⟩, es, A.age, A.hits⟩, rfl, ?_, ?_, ?_⟩
        · have hK := HK.out
          have hC := HC.out
          have hs := hK.size
          have hsz := HSZ.out
          have hle := hC.bel.size
          refine ⟨((hC.own.keeps hK (fun b hb hS => by have := hb.1; omega)).up hs (Nat.le_refl _)).mono (by omega), (hC.s1.keeps hK (fun b hb hS => by have := (hC.s1.lt hb).1; omega)).mono (by omega), (hC.s2.keeps hK (fun b hb hS => by have := (hC.s2.lt hb).1; omega)).mono (by omega), fun b hb => ?_, fun b hb => ?_, hC.d12, hC.d01, hC.d02⟩
          · have := (hC.s1.lt hb).2; omega
          · have := (hC.s2.lt hb).2; omega
        · show (⟨es.map CellE.d, A.age, A.hits⟩ : ArrD) = ⟨A.es.map CellE.d, A.age, A.hits⟩
          rw [HC.out.data, List.take_of_length_le (by have := HCL.out.len; omega)]
        · exact (HBW.out.trans (HC.out.bel.mono (by have := HSZ.out; omega))).trans (HK.out.below (by have := HSZ.out; have := HC.out.bel.size; omega) (fun q hq hS => by omega))
end Go.Proofs.Ytnfkkkjookfdiaa
