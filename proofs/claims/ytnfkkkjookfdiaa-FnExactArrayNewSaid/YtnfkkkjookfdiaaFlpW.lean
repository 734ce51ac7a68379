/- FlipSymbol: what the program's and the reference's return. -/
import Derived.Test.YtnfkkkjookfdiaaRowW
import Derived.Test.YtnfkkkjookfdiaaCpaW
import Derived.Test.YtnfkkkjookfdiaaCorW
import Derived.Test.YtnfkkkjookfdiaaStA
namespace Go.Proofs.Ytnfkkkjookfdiaa
open Go.RowKit

theorem small_of_lens {D E : ArrD} (h : D.small) (hl : E.lens = D.lens) (h1 : E.age.length = D.age.length) (h2 : E.hits.length = D.hits.length) : E.small := by
  have hc : E.cells.length = D.cells.length := by have := congrArg List.length hl; simpa [ArrD.lens] using this
  refine ⟨by rw [hc]; exact h.cells, fun i x hx => ?_, by rw [hl]; exact h.sum, by rw [h1]; exact h.age, by rw [h2]; exact h.hits⟩
  have h3 : E.lens[i]? = some x.1.length := by simp [ArrD.lens, hx]
  rw [hl] at h3
  exact h.ls i _ h3
def flipC (q : List Int × Bool) (c x : Int) : List Int × Bool := (q.1.set c.toNat (bits .xor .i64 (q.1[c.toNat]?.getD 0) x), q.2)
def flipR (G : Geo) (D : Adr) (A : ArrD) (c x : Int) : ArrD :=
  if arrOk G A && adrOk G D && inB c 0 10 && inB x 0 15 then ⟨A.cells.set (adrIdx G D).toNat (flipC (A.cells[(adrIdx G D).toNat]?.getD ([], false)) c x), A.age, A.hits⟩ else A
theorem flipR_small {G : Geo} {D : Adr} {A : ArrD} {c x : Int} (h : A.small) : (flipR G D A c x).small := by
  unfold flipR
  split
  · refine small_of_lens h ?_ rfl rfl
    show (A.cells.set _ _).map (fun q => q.1.length) = A.cells.map (fun q => q.1.length)
    rw [List.map_set]
    generalize (adrIdx G D).toNat = i
    cases hx : A.cells[i]? with
    | none => rw [List.set_eq_of_length_le (by rw [List.length_map]; exact List.getElem?_eq_none_iff.1 hx)]
    | some q => exact set_same (by rw [List.getElem?_map, hx]; simp [flipC])
  · exact h
theorem cell_idx {G : Geo} {A : ArrD} {X : ArrE} {D : Adr} (h1 : arrOk G A = true) (h2 : adrOk G D = true) (hd : X.d = A) : ∃ (i : Nat) (e : CellE), adrIdx G D = (i : Int) ∧ X.es[i]? = some e ∧ e.xs.length = 11 ∧ symOk e.xs 11 = true := by
  subst hd
  obtain ⟨_, hl, _, _, hc⟩ := arrOk_parts h1
  obtain ⟨_, h0, h3, _⟩ := adrIdx_bd h2
  have hlen : X.d.cells.length = X.es.length := by simp [ArrE.d]
  obtain ⟨e, he⟩ : ∃ e, X.es[(adrIdx G D).toNat]? = some e := ⟨X.es[(adrIdx G D).toNat]'(by omega), List.getElem?_eq_getElem _⟩
  have hs : symOk e.xs 11 = true := by
    unfold cellsOk at hc
    rw [List.all_eq_true] at hc
    exact hc (e.xs, e.p) (List.mem_of_getElem? (cells_at he))
  exact ⟨(adrIdx G D).toNat, e, by omega, he, symOk_len hs, hs⟩
theorem flipR_yes {G : Geo} {D : Adr} {A : ArrD} {m i : Nat} {x y : Int} {X : ArrE} {e : CellE} (k1 : arrOk G A = true) (k2 : adrOk G D = true) (k3 : inB (m : Int) 0 10 = true) (k4 : inB x 0 15 = true) (hd : X.d = A) (hi : adrIdx G D = (i : Int)) (he : X.es[i]? = some e) (hy : e.xs[m]? = some y) :
    flipR G D A m x = (⟨X.s0, X.s1, X.s2, X.es.set i ⟨e.a, e.n, e.c, e.xs.set m (bits .xor .i64 y x), e.p⟩, X.age, X.hits⟩ : ArrE).d := by
  subst hd
  unfold flipR
  rw [k1, k2, k3, k4]
  simp only [Bool.and_self, if_true]
  rw [hi, Int.toNat_natCast, cells_at he]
  simp only [flipC, Option.getD_some, Int.toNat_natCast, hy, ArrE.d, List.map_set, CellE.d]
theorem OwnA.writeC {w w' : World} {B U i : Nat} {X : ArrE} {e : CellE} {xs' : List Int} (h : OwnA w B U X) (he : X.es[i]? = some e) (hk : Keeps (blkS e.a e.n) w w') (hw : OwnS w' B e.a e.n e.c xs') :
    OwnA w' B U ⟨X.s0, X.s1, X.s2, X.es.set i ⟨e.a, e.n, e.c, xs', e.p⟩, X.age, X.hits⟩ := by
  have key : ∀ (j : Nat) (f : CellE), (X.es.set i ⟨e.a, e.n, e.c, xs', e.p⟩)[j]? = some f → ∃ f' : CellE, X.es[j]? = some f' ∧ f.a = f'.a ∧ f.n = f'.n := by
    intro j f hf
    rw [List.getElem?_set] at hf
    by_cases hij : i = j
    · subst hij
      have hi := (List.getElem?_eq_some_iff.1 he).1
      simp only [if_true, hi] at hf
      simp only [Option.some.injEq] at hf
      subst hf
      exact ⟨e, he, rfl, rfl⟩
    · rw [if_neg hij] at hf
      exact ⟨f, hf, rfl, rfl⟩
  refine ⟨h.cells.write he ⟨rfl, rfl, rfl, rfl⟩ hk hw, h.age.keeps hk (fun b hb hS => h.a01 i e he b hS hb), h.hits.keeps hk (fun b hb hS => h.a02 i e he b hS hb), h.t1, h.t2, h.a12, fun j f hf b hb => ?_, fun j f hf b hb => ?_⟩
  · obtain ⟨f', hf', e1, e2⟩ := key j f hf
    rw [e1, e2] at hb
    exact h.a01 j f' hf' b hb
  · obtain ⟨f', hf', e1, e2⟩ := key j f hf
    rw [e1, e2] at hb
    exact h.a02 j f' hf' b hb
set_option maxRecDepth 100000 in
theorem implFlipSymbol_any (G : Geo) (A : ArrE) (D : Adr) (c x : Int) (w : World) (hA : ArrR w A) (hs : A.d.small) :
    Calls Try.prog 46 #[.agg #[.int .i64 G.a, .int .i64 G.b, .int .i64 G.r, .int .i64 G.c], .agg #[.slice A.s0.a A.s0.n A.s0.c, .slice A.s1.a A.s1.n A.s1.c, .slice A.s2.a A.s2.n A.s2.c], .agg #[.int .i64 D.b, .int .i64 D.r, .int .i64 D.c], .int .i64 c, .int .i64 x] w fun e w' => ∃ A' : ArrE, e = .returned (.agg #[.slice A'.s0.a A'.s0.n A'.s0.c, .slice A'.s1.a A'.s1.n A'.s1.c, .slice A'.s2.a A'.s2.n A'.s2.c]) ∧ OwnA w' w.heap.size w'.heap.size A' ∧ A'.d = flipR G D A.d c x ∧ Below w.heap.size w w' := by
  have HA := hid hA
  have HS := hid hs
  clear hA hs
  go_enter Try.func46, Try.ntmps46
  go_wp2_with fail
  refine (implCopyArray_any A _ (HA.out.old (below_alloc4 _ _ _ _ _)) HS.out).mono ?_
  rintro e w1 ⟨X, rfl, OX, DX, B1⟩
  have HXG := hid (((((BoxG.new_ w 37 G (show _ = w.heap.size by simp)).old (below_alloc _ _)).old (below_alloc _ _)).old (below_alloc _ _)).old B1)
  have HXA := hid ((((BoxR.new_ (w.alloc _) 41 A (show _ = w.heap.size + 1 by simp)).old (below_alloc _ _)).old (below_alloc _ _)).old B1)
  have HXD := hid (((BoxA.new_ ((w.alloc _).alloc _) 64 D (show _ = w.heap.size + 1 + 1 by simp)).old (below_alloc _ _)).old B1)
  have XR : w1.heap[w.heap.size + 1 + 1 + 1]? = some (.cells #[.slice none 0 0, .slice none 0 0, .slice none 0 0] 41 (0, 0)) := by
    rw [B1.block _ (by simp)]
    have := heap_alloc_new (((w.alloc (.cells #[.int .i64 G.a, .int .i64 G.b, .int .i64 G.r, .int .i64 G.c] 37)).alloc (.cells #[.slice A.s0.a A.s0.n A.s0.c, .slice A.s1.a A.s1.n A.s1.c, .slice A.s2.a A.s2.n A.s2.c] 41)).alloc (.cells #[.int .i64 D.b, .int .i64 D.r, .int .i64 D.c] 64)) (.cells #[.slice none 0 0, .slice none 0 0, .slice none 0 0] 41)
    simpa using this
  have HB := hid (below_step (below_alloc4 _ _ _ _ _) B1 (Nat.le_refl _))
  have hsz1 := B1.size
  simp only [World.size_alloc] at hsz1
  have hoX := OX.mono (B' := w.heap.size + 1 + 1 + 1 + 1) (by simp)
  have HOX := hid hoX
  have HDX := hid DX
  have HXR := hid XR
  clear OX hoX DX XR B1
  have oG0 := HXG.out.c0
  have oG1 := HXG.out.c1
  have oG2 := HXG.out.c2
  have oG3 := HXG.out.c3
  have olG := HXG.out.lt
  have oA0 := HXA.out.c0
  have oA1 := HXA.out.c1
  have oA2 := HXA.out.c2
  have olA := HXA.out.lt
  have hwa : Below w1.heap.size w1 (w1.alloc (.cells #[.slice X.s0.a X.s0.n X.s0.c, .slice X.s1.a X.s1.n X.s1.c, .slice X.s2.a X.s2.n X.s2.c] 41)) := below_alloc _ _
  have HWA := hid hwa
  clear hwa
  have HXV := hid (BoxV.new w1 X)
  go_wp2_with fail
  clear oG0 oG1 oG2 oG3 olG oA0 oA1 oA2 olA
  have HXG := hid (HXG.out.old HWA.out)
  have HXA := hid (HXA.out.old HWA.out)
  have HXD := hid (HXD.out.old HWA.out)
  have HOX := hid (HOX.out.old HWA.out)
  have HXR := hid ((HWA.out.block _ (lt_of_heap HXR.out)).trans HXR.out)
  have HB := hid (below_step HB.out HWA.out (Nat.le_refl _))
  refine (implArrayOk_any G A _ (HA.out.old HB.out) HS.out).mono ?_
  rintro e w2 ⟨rfl, B⟩
  have HXG := hid (HXG.out.old B)
  have HXA := hid (HXA.out.old B)
  have HXD := hid (HXD.out.old B)
  have HOX := hid (HOX.out.old B)
  have HXV := hid (HXV.out.old B)
  have HXR := hid ((B.block _ (lt_of_heap HXR.out)).trans HXR.out)
  have HB := hid (below_step HB.out B (Nat.le_refl _))
  clear B
  cases k1 : arrOk G A.d with
  | false =>
    have hT := hid (show flipR G D A.d c x = A.d by unfold flipR; rw [k1]; simp)
    have v0 := HXV.out.c0
    have v1 := HXV.out.c1
    have v2 := HXV.out.c2
    have r0 := cell_of_row w2 (w.heap.size + 1 + 1 + 1) 0 _ 41 (0, 0) HXR.out
    have r1 := cell_of_row w2 (w.heap.size + 1 + 1 + 1) 1 _ 41 (0, 0) HXR.out
    have r2 := cell_of_row w2 (w.heap.size + 1 + 1 + 1) 2 _ 41 (0, 0) HXR.out
    have fr := fun j => frozen_of_row w2 (w.heap.size + 1 + 1 + 1) j _ 41 HXR.out
    simp only [List.getElem?_toArray, List.getElem?_cons_zero, List.getElem?_cons_succ] at r0 r1 r2
    have K : Keeps (fun b => b = w.heap.size + 1 + 1 + 1) w2 (((w2.setCell ⟨w.heap.size + 1 + 1 + 1, 0, none⟩ (.slice X.s0.a X.s0.n X.s0.c)).setCell ⟨w.heap.size + 1 + 1 + 1, 1, none⟩ (.slice X.s1.a X.s1.n X.s1.c)).setCell ⟨w.heap.size + 1 + 1 + 1, 2, none⟩ (.slice X.s2.a X.s2.n X.s2.c)) :=
      (((Keeps.refl (fun b => b = w.heap.size + 1 + 1 + 1) w2).set ⟨w.heap.size + 1 + 1 + 1, 0, none⟩ _ rfl).set ⟨w.heap.size + 1 + 1 + 1, 1, none⟩ _ rfl).set ⟨w.heap.size + 1 + 1 + 1, 2, none⟩ _ rfl
    have HK := hid K
    clear K
    go_wp2_with fail
    refine bodyPost_ret (v := .agg #[.slice X.s0.a X.s0.n X.s0.c, .slice X.s1.a X.s1.n X.s1.c, .slice X.s2.a X.s2.n X.s2.c]) (by simp [results, Try.results46, go_sem, r0, r1, r2]) rfl ⟨X, rfl, ?_, by rw [HDX.out, hT.out], ?_⟩
    · exact ((HOX.out.keeps HK.out (fun b hb hS => by have := hb.1; omega)).up (Nat.le_trans HOX.out.cells.row.le HK.out.size) (Nat.le_refl _)).mono (by omega)
    · exact HB.out.trans (HK.out.below (by have := HB.out.size; omega) (fun q hq hS => by omega))
  | true =>
    have oG0 := HXG.out.c0
    have oG1 := HXG.out.c1
    have oG2 := HXG.out.c2
    have oG3 := HXG.out.c3
    have olG := HXG.out.lt
    have oD0 := HXD.out.c0
    have oD1 := HXD.out.c1
    have oD2 := HXD.out.c2
    have olD := HXD.out.lt
    go_wp2_with fail
    clear oG0 oG1 oG2 oG3 olG oD0 oD1 oD2 olD
    refine (implAddrOk_any G D _).mono ?_
    rintro e w3 ⟨rfl, B⟩
    have HXG := hid (HXG.out.old B)
    have HXA := hid (HXA.out.old B)
    have HXD := hid (HXD.out.old B)
    have HOX := hid (HOX.out.old B)
    have HXV := hid (HXV.out.old B)
    have HXR := hid ((B.block _ (lt_of_heap HXR.out)).trans HXR.out)
    have HB := hid (below_step HB.out B (Nat.le_refl _))
    clear B
    cases k2 : adrOk G D with
    | false =>
      have hT := hid (show flipR G D A.d c x = A.d by unfold flipR; rw [k1, k2]; simp)
      have v0 := HXV.out.c0
      have v1 := HXV.out.c1
      have v2 := HXV.out.c2
      have r0 := cell_of_row w3 (w.heap.size + 1 + 1 + 1) 0 _ 41 (0, 0) HXR.out
      have r1 := cell_of_row w3 (w.heap.size + 1 + 1 + 1) 1 _ 41 (0, 0) HXR.out
      have r2 := cell_of_row w3 (w.heap.size + 1 + 1 + 1) 2 _ 41 (0, 0) HXR.out
      have fr := fun j => frozen_of_row w3 (w.heap.size + 1 + 1 + 1) j _ 41 HXR.out
      simp only [List.getElem?_toArray, List.getElem?_cons_zero, List.getElem?_cons_succ] at r0 r1 r2
      have K : Keeps (fun b => b = w.heap.size + 1 + 1 + 1) w3 (((w3.setCell ⟨w.heap.size + 1 + 1 + 1, 0, none⟩ (.slice X.s0.a X.s0.n X.s0.c)).setCell ⟨w.heap.size + 1 + 1 + 1, 1, none⟩ (.slice X.s1.a X.s1.n X.s1.c)).setCell ⟨w.heap.size + 1 + 1 + 1, 2, none⟩ (.slice X.s2.a X.s2.n X.s2.c)) :=
        (((Keeps.refl (fun b => b = w.heap.size + 1 + 1 + 1) w3).set ⟨w.heap.size + 1 + 1 + 1, 0, none⟩ _ rfl).set ⟨w.heap.size + 1 + 1 + 1, 1, none⟩ _ rfl).set ⟨w.heap.size + 1 + 1 + 1, 2, none⟩ _ rfl
      have HK := hid K
      clear K
      go_wp2_with fail
      refine bodyPost_ret (v := .agg #[.slice X.s0.a X.s0.n X.s0.c, .slice X.s1.a X.s1.n X.s1.c, .slice X.s2.a X.s2.n X.s2.c]) (by simp [results, Try.results46, go_sem, r0, r1, r2]) rfl ⟨X, rfl, ?_, by rw [HDX.out, hT.out], ?_⟩
      · exact ((HOX.out.keeps HK.out (fun b hb hS => by have := hb.1; omega)).up (Nat.le_trans HOX.out.cells.row.le HK.out.size) (Nat.le_refl _)).mono (by omega)
      · exact HB.out.trans (HK.out.below (by have := HB.out.size; omega) (fun q hq hS => by omega))
    | true =>
      cases k3 : inB c 0 10 with
      | false =>
        have hT := hid (show flipR G D A.d c x = A.d by unfold flipR; rw [k1, k2, k3]; simp)
        go_wp2_with fail
        refine (between_of k3).mono ?_
        rintro e w4 ⟨rfl, rfl⟩
        have v0 := HXV.out.c0
        have v1 := HXV.out.c1
        have v2 := HXV.out.c2
        have r0 := cell_of_row w3 (w.heap.size + 1 + 1 + 1) 0 _ 41 (0, 0) HXR.out
        have r1 := cell_of_row w3 (w.heap.size + 1 + 1 + 1) 1 _ 41 (0, 0) HXR.out
        have r2 := cell_of_row w3 (w.heap.size + 1 + 1 + 1) 2 _ 41 (0, 0) HXR.out
        have fr := fun j => frozen_of_row w3 (w.heap.size + 1 + 1 + 1) j _ 41 HXR.out
        simp only [List.getElem?_toArray, List.getElem?_cons_zero, List.getElem?_cons_succ] at r0 r1 r2
        have K : Keeps (fun b => b = w.heap.size + 1 + 1 + 1) w3 (((w3.setCell ⟨w.heap.size + 1 + 1 + 1, 0, none⟩ (.slice X.s0.a X.s0.n X.s0.c)).setCell ⟨w.heap.size + 1 + 1 + 1, 1, none⟩ (.slice X.s1.a X.s1.n X.s1.c)).setCell ⟨w.heap.size + 1 + 1 + 1, 2, none⟩ (.slice X.s2.a X.s2.n X.s2.c)) :=
          (((Keeps.refl (fun b => b = w.heap.size + 1 + 1 + 1) w3).set ⟨w.heap.size + 1 + 1 + 1, 0, none⟩ _ rfl).set ⟨w.heap.size + 1 + 1 + 1, 1, none⟩ _ rfl).set ⟨w.heap.size + 1 + 1 + 1, 2, none⟩ _ rfl
        have HK := hid K
        clear K
        go_wp2_with fail
        refine bodyPost_ret (v := .agg #[.slice X.s0.a X.s0.n X.s0.c, .slice X.s1.a X.s1.n X.s1.c, .slice X.s2.a X.s2.n X.s2.c]) (by simp [results, Try.results46, go_sem, r0, r1, r2]) rfl ⟨X, rfl, ?_, by rw [HDX.out, hT.out], ?_⟩
        · exact ((HOX.out.keeps HK.out (fun b hb hS => by have := hb.1; omega)).up (Nat.le_trans HOX.out.cells.row.le HK.out.size) (Nat.le_refl _)).mono (by omega)
        · exact HB.out.trans (HK.out.below (by have := HB.out.size; omega) (fun q hq hS => by omega))
      | true =>
        go_wp2_with fail
        refine (between_of k3).mono ?_
        rintro e w4 ⟨rfl, rfl⟩
        cases k4 : inB x 0 15 with
        | false =>
          have hT := hid (show flipR G D A.d c x = A.d by unfold flipR; rw [k1, k2, k3, k4]; simp)
          go_wp2_with fail
          refine (isElement_any x _).mono ?_
          rintro e w4 ⟨rfl, rfl⟩
          rw [k4]
          have v0 := HXV.out.c0
          have v1 := HXV.out.c1
          have v2 := HXV.out.c2
          have r0 := cell_of_row w3 (w.heap.size + 1 + 1 + 1) 0 _ 41 (0, 0) HXR.out
          have r1 := cell_of_row w3 (w.heap.size + 1 + 1 + 1) 1 _ 41 (0, 0) HXR.out
          have r2 := cell_of_row w3 (w.heap.size + 1 + 1 + 1) 2 _ 41 (0, 0) HXR.out
          have fr := fun j => frozen_of_row w3 (w.heap.size + 1 + 1 + 1) j _ 41 HXR.out
          simp only [List.getElem?_toArray, List.getElem?_cons_zero, List.getElem?_cons_succ] at r0 r1 r2
          have K : Keeps (fun b => b = w.heap.size + 1 + 1 + 1) w3 (((w3.setCell ⟨w.heap.size + 1 + 1 + 1, 0, none⟩ (.slice X.s0.a X.s0.n X.s0.c)).setCell ⟨w.heap.size + 1 + 1 + 1, 1, none⟩ (.slice X.s1.a X.s1.n X.s1.c)).setCell ⟨w.heap.size + 1 + 1 + 1, 2, none⟩ (.slice X.s2.a X.s2.n X.s2.c)) :=
            (((Keeps.refl (fun b => b = w.heap.size + 1 + 1 + 1) w3).set ⟨w.heap.size + 1 + 1 + 1, 0, none⟩ _ rfl).set ⟨w.heap.size + 1 + 1 + 1, 1, none⟩ _ rfl).set ⟨w.heap.size + 1 + 1 + 1, 2, none⟩ _ rfl
          have HK := hid K
          clear K
          go_wp2_with fail
          refine bodyPost_ret (v := .agg #[.slice X.s0.a X.s0.n X.s0.c, .slice X.s1.a X.s1.n X.s1.c, .slice X.s2.a X.s2.n X.s2.c]) (by simp [results, Try.results46, go_sem, r0, r1, r2]) rfl ⟨X, rfl, ?_, by rw [HDX.out, hT.out], ?_⟩
          · exact ((HOX.out.keeps HK.out (fun b hb hS => by have := hb.1; omega)).up (Nat.le_trans HOX.out.cells.row.le HK.out.size) (Nat.le_refl _)).mono (by omega)
          · exact HB.out.trans (HK.out.below (by have := HB.out.size; omega) (fun q hq hS => by omega))
        | true =>
          obtain ⟨m, rfl⟩ : ∃ m : Nat, c = (m : Int) := ⟨c.toNat, by have := inB_iff.1 k3; omega⟩
          have hm : m < 11 := by have := inB_iff.1 k3; omega
          obtain ⟨ci, e, hi, he, hen, hxs⟩ := cell_idx (X := X) (D := D) k1 k2 HDX.out
          obtain ⟨y, hy⟩ : ∃ y, e.xs[m]? = some y := ⟨e.xs[m]'(by omega), List.getElem?_eq_getElem _⟩
          have hT := hid (flipR_yes (y := y) (e := e) (X := X) k1 k2 k3 k4 HDX.out hi he hy)
          have HI := hid hi
          have HE := hid he
          go_wp2_with fail
          refine (isElement_any x _).mono ?_
          rintro e w4 ⟨rfl, rfl⟩
          rw [k4]
          obtain ⟨g0, hg0, hB0, hU0, hc0⟩ := HOX.out.cells.row.at_ encC_len he (show (encC e)[0]? = some (.slice e.a e.n e.c) from rfl)
          obtain ⟨gs, hgs, hBs, hrow⟩ := (HOX.out.cells.own ci e he).row (by have := (HOX.out.cells.own ci e he).length; omega)
          have hin : ci < X.s0.n := by have h1 := HOX.out.cells.len; have h2 := (List.getElem?_eq_some_iff.1 he).1; omega
          have hi0 : (0 : Int) ≤ (ci : Int) := by omega
          have hin' : (ci : Int) < (X.s0.n : Int) := by omega
          have hm0 : (0 : Int) ≤ (m : Int) := by omega
          have hmn : (m : Int) < (e.n : Int) := by have := (HOX.out.cells.own ci e he).length; omega
          have v0 := HXV.out.c0
          rw [hg0] at v0
          have V0 := hid v0
          have LV := hid HXV.out.lt
          have L0 : Hid (g0 < w3.heap.size) := hid (by have := HOX.out.cells.row.le; omega)
          have C0 : Hid (w3.cell? ⟨g0, ci * 2, none⟩ = some (.slice (some ⟨gs, 0, none⟩) e.n e.c)) := hid (by rw [← hgs]; simpa using hc0)
          have HG0 := hid hg0
          have HGS := hid hgs
          have HROW := hid hrow
          have HY := hid hy
          have hne1 : gs ≠ w1.heap.size := fun hq => ints_not (HOX.out.cells.own ci e he) HXV.out.hh (by decide) gs ⟨by have := (HOX.out.cells.own ci e he).length; omega, by rw [hgs]⟩ hq
          have HNE := hid hne1
          have HBs := hid hBs
          clear hgs hrow hy hne1 hBs hc0 v0 k1 k2 k3 k4 hi he hen hxs hg0 hB0 hU0
          go_wp2_with fail
          refine grow_of 14 (fr := ?fr1)
            (fun i v w' => match i with
                | 0 => v = .pointer (some ⟨w1.heap.size, 0, none⟩)
                | 1 => v = .slice (some ⟨g0, 0, none⟩) X.s0.n X.s0.c
                | 2 => v = .agg #[.int .i64 G.a, .int .i64 G.b, .int .i64 G.r, .int .i64 G.c]
                | 3 => v = .agg #[.int .i64 D.b, .int .i64 D.r, .int .i64 D.c]
                | 4 => v = .int .i64 (ci : Int)
                | 5 => v = .pointer (some ⟨g0, ci * 2, none⟩)
                | 6 => v = .pointer (some ⟨g0, ci * 2, none⟩)
                | 7 => v = .slice (some ⟨gs, 0, none⟩) e.n e.c
                | 8 => v = .int .i64 (m : Int)
                | 9 => v = .pointer (some ⟨gs, m, none⟩)
                | 10 => v = .int .i64 y
                | 11 => v = .int .i64 x
                | 12 => v = .int .i64 (bits .xor .i64 y x)
                | _ => v = .pointer (some ⟨gs, m, none⟩)) (by kernel_rfl) (by kernel_rfl) rfl ?hlast1 ?hfr1 ⟨fun _ => undef, ?h01⟩ ?hF1 ?hstep1 ?hend1
          case hfr1 => intro vs; simp only [frOf, List.take_succ_cons, List.take_zero]; go_simp; exact rfl
          case h01 => rfl
          case hlast1 =>
            intro o ho i hi
            simp only [List.getElem?_cons_succ, List.getElem?_cons_zero, Option.some.injEq] at ho
            subst ho
            match i, hi with
            | 0, _ => show (_ : Bool) = true; kernel_rfl
            | 1, _ => show (_ : Bool) = true; kernel_rfl
            | 2, _ => show (_ : Bool) = true; kernel_rfl
            | 3, _ => show (_ : Bool) = true; kernel_rfl
            | 4, _ => show (_ : Bool) = true; kernel_rfl
            | 5, _ => show (_ : Bool) = true; kernel_rfl
            | 6, _ => show (_ : Bool) = true; kernel_rfl
            | 7, _ => show (_ : Bool) = true; kernel_rfl
            | 8, _ => show (_ : Bool) = true; kernel_rfl
            | 9, _ => show (_ : Bool) = true; kernel_rfl
            | 10, _ => show (_ : Bool) = true; kernel_rfl
            | 11, _ => show (_ : Bool) = true; kernel_rfl
            | 12, _ => show (_ : Bool) = true; kernel_rfl
            | 13, _ => show (_ : Bool) = true; kernel_rfl
          case hF1 =>
            intro i v w' w'' h hb
            match i, h with
            | 0, h => exact h
            | 1, h => exact h
            | 2, h => exact h
            | 3, h => exact h
            | 4, h => exact h
            | 5, h => exact h
            | 6, h => exact h
            | 7, h => exact h
            | 8, h => exact h
            | 9, h => exact h
            | 10, h => exact h
            | 11, h => exact h
            | 12, h => exact h
            | n + 13, h => exact h
          case hstep1 =>
            intro vs w' i o hin ho hb hd
            match i, ho, hin with
            | 0, ho, _ =>
              simp only [List.getElem?_cons_zero, Option.some.injEq] at ho
              subst ho
              refine ⟨wanted_none rfl, ?_⟩
              generalize hK : (fun (a' : Act) (w'' : World) => ∃ v : Value, _ ∧ _ ∧ _) = K
              go_simp
              rw [← hK]
              exact ⟨_, rfl, rfl, Below.refl _ _⟩
            | 1, ho, _ =>
              simp only [List.getElem?_cons_succ, List.getElem?_cons_zero, Option.some.injEq] at ho
              subst ho
              refine ⟨wanted_none rfl, ?_⟩
              have e0 : vs 0 = .pointer (some ⟨w1.heap.size, 0, none⟩) := hd 0 (by kernel_rfl)
              have q := (hb.cell (p := ⟨w1.heap.size, 0, none⟩) LV.out).trans V0.out
              generalize hK : (fun (a' : Act) (w'' : World) => ∃ v : Value, _ ∧ _ ∧ _) = K
              go_simp
              rw [← hK]
              exact ⟨_, by simp [upd, e0], rfl, Below.refl _ _⟩
            | 2, ho, _ =>
              simp only [List.getElem?_cons_succ, List.getElem?_cons_zero, Option.some.injEq] at ho
              subst ho
              refine ⟨wanted_none rfl, ?_⟩
              have c0 := (HXG.out.old hb).c0
              have c1 := (HXG.out.old hb).c1
              have c2 := (HXG.out.old hb).c2
              have c3 := (HXG.out.old hb).c3
              generalize hK : (fun (a' : Act) (w'' : World) => ∃ v : Value, _ ∧ _ ∧ _) = K
              go_simp
              rw [← hK]
              exact ⟨_, rfl, rfl, Below.refl _ _⟩
            | 3, ho, _ =>
              simp only [List.getElem?_cons_succ, List.getElem?_cons_zero, Option.some.injEq] at ho
              subst ho
              refine ⟨wanted_none rfl, ?_⟩
              have c0 := (HXD.out.old hb).c0
              have c1 := (HXD.out.old hb).c1
              have c2 := (HXD.out.old hb).c2
              generalize hK : (fun (a' : Act) (w'' : World) => ∃ v : Value, _ ∧ _ ∧ _) = K
              go_simp
              rw [← hK]
              exact ⟨_, rfl, rfl, Below.refl _ _⟩
            | 4, ho, _ =>
              simp only [List.getElem?_cons_succ, List.getElem?_cons_zero, Option.some.injEq] at ho
              subst ho
              refine ⟨wanted_none rfl, ?_⟩
              have e2 : Hid (vs 2 = .agg #[.int .i64 G.a, .int .i64 G.b, .int .i64 G.r, .int .i64 G.c]) := hd 2 (by kernel_rfl)
              have e3 : Hid (vs 3 = .agg #[.int .i64 D.b, .int .i64 D.r, .int .i64 D.c]) := hd 3 (by kernel_rfl)
              generalize hK : (fun (a' : Act) (w'' : World) => ∃ v : Value, _ ∧ _ ∧ _) = K
              go_simp
              refine (calls_args (by rw [e2.out, e3.out]) (implAddrIndex_any G D _)).mono ?_
              rintro e w2 ⟨rfl, B⟩
              rw [← hK]
              exact ⟨_, rfl, congrArg (Value.int .i64) HI.out, B⟩
            | 5, ho, _ =>
              simp only [List.getElem?_cons_succ, List.getElem?_cons_zero, Option.some.injEq] at ho
              subst ho
              refine ⟨wanted_none rfl, ?_⟩
              have e1 : vs 1 = .slice (some ⟨g0, 0, none⟩) X.s0.n X.s0.c := hd 1 (by kernel_rfl)
              have e4 : vs 4 = .int .i64 (ci : Int) := hd 4 (by kernel_rfl)
              generalize hK : (fun (a' : Act) (w'' : World) => ∃ v : Value, _ ∧ _ ∧ _) = K
              go_simp
              rw [← hK]
              exact ⟨_, by simp [upd, e1, e4], rfl, Below.refl _ _⟩
            | 6, ho, _ =>
              simp only [List.getElem?_cons_succ, List.getElem?_cons_zero, Option.some.injEq] at ho
              subst ho
              refine ⟨wanted_none rfl, ?_⟩
              have e5 : vs 5 = .pointer (some ⟨g0, ci * 2, none⟩) := hd 5 (by kernel_rfl)
              generalize hK : (fun (a' : Act) (w'' : World) => ∃ v : Value, _ ∧ _ ∧ _) = K
              go_simp
              rw [← hK]
              exact ⟨_, by simp [upd, e5], rfl, Below.refl _ _⟩
            | 7, ho, _ =>
              simp only [List.getElem?_cons_succ, List.getElem?_cons_zero, Option.some.injEq] at ho
              subst ho
              refine ⟨wanted_none rfl, ?_⟩
              have e6 : vs 6 = .pointer (some ⟨g0, ci * 2, none⟩) := hd 6 (by kernel_rfl)
              have q := (hb.cell (p := ⟨g0, ci * 2, none⟩) L0.out).trans C0.out
              generalize hK : (fun (a' : Act) (w'' : World) => ∃ v : Value, _ ∧ _ ∧ _) = K
              go_simp
              rw [← hK]
              exact ⟨_, by simp [upd, e6], rfl, Below.refl _ _⟩
            | 8, ho, _ =>
              simp only [List.getElem?_cons_succ, List.getElem?_cons_zero, Option.some.injEq] at ho
              subst ho
              refine ⟨wanted_none rfl, ?_⟩
              generalize hK : (fun (a' : Act) (w'' : World) => ∃ v : Value, _ ∧ _ ∧ _) = K
              go_simp
              rw [← hK]
              exact ⟨_, rfl, rfl, Below.refl _ _⟩
            | 9, ho, _ =>
              simp only [List.getElem?_cons_succ, List.getElem?_cons_zero, Option.some.injEq] at ho
              subst ho
              refine ⟨wanted_none rfl, ?_⟩
              have e7 : vs 7 = .slice (some ⟨gs, 0, none⟩) e.n e.c := hd 7 (by kernel_rfl)
              have e8 : vs 8 = .int .i64 (m : Int) := hd 8 (by kernel_rfl)
              generalize hK : (fun (a' : Act) (w'' : World) => ∃ v : Value, _ ∧ _ ∧ _) = K
              go_simp
              rw [← hK]
              exact ⟨_, by simp [upd, e7, e8], rfl, Below.refl _ _⟩
            | 10, ho, _ =>
              simp only [List.getElem?_cons_succ, List.getElem?_cons_zero, Option.some.injEq] at ho
              subst ho
              refine ⟨wanted_none rfl, ?_⟩
              have e9 : vs 9 = .pointer (some ⟨gs, m, none⟩) := hd 9 (by kernel_rfl)
              have q := (HROW.out.keeps (Keeps.of_below (S := fun _ => False) hb) (fun h => h)).cell HY.out
              generalize hK : (fun (a' : Act) (w'' : World) => ∃ v : Value, _ ∧ _ ∧ _) = K
              go_simp
              rw [← hK]
              exact ⟨_, by simp [upd, e9], rfl, Below.refl _ _⟩
            | 11, ho, _ =>
              simp only [List.getElem?_cons_succ, List.getElem?_cons_zero, Option.some.injEq] at ho
              subst ho
              refine ⟨wanted_none rfl, ?_⟩
              generalize hK : (fun (a' : Act) (w'' : World) => ∃ v : Value, _ ∧ _ ∧ _) = K
              go_simp
              rw [← hK]
              exact ⟨_, rfl, rfl, Below.refl _ _⟩
            | 12, ho, _ =>
              simp only [List.getElem?_cons_succ, List.getElem?_cons_zero, Option.some.injEq] at ho
              subst ho
              refine ⟨wanted_none rfl, ?_⟩
              have e10 : vs 10 = .int .i64 y := hd 10 (by kernel_rfl)
              have e11 : vs 11 = .int .i64 x := hd 11 (by kernel_rfl)
              generalize hK : (fun (a' : Act) (w'' : World) => ∃ v : Value, _ ∧ _ ∧ _) = K
              go_simp
              rw [← hK]
              exact ⟨_, by simp [upd, e10, e11], rfl, Below.refl _ _⟩
            | 13, ho, _ =>
              simp only [List.getElem?_cons_succ, List.getElem?_cons_zero, Option.some.injEq] at ho
              subst ho
              refine ⟨wanted_none rfl, ?_⟩
              have e7 : vs 7 = .slice (some ⟨gs, 0, none⟩) e.n e.c := hd 7 (by kernel_rfl)
              have e8 : vs 8 = .int .i64 (m : Int) := hd 8 (by kernel_rfl)
              generalize hK : (fun (a' : Act) (w'' : World) => ∃ v : Value, _ ∧ _ ∧ _) = K
              go_simp
              rw [← hK]
              exact ⟨_, by simp [upd, e7, e8], rfl, Below.refl _ _⟩
            | n + 14, _, hin => exact absurd hin (by omega)
          case hend1 =>
            intro vs w5 o ho hb hf
            simp only [List.getElem?_cons_succ, List.getElem?_cons_zero, Option.some.injEq] at ho
            subst ho
            refine ⟨wanted_none rfl, ?_⟩
            have er : vs 12 = .int .i64 (bits .xor .i64 y x) := hf 12 (by decide)
            have ep : vs 13 = .pointer (some ⟨gs, m, none⟩) := hf 13 (by decide)
            generalize vs 12 = ur at er ⊢
            subst er
            generalize vs 13 = up at ep ⊢
            subst ep
            have HHB := hid hb
            clear hf hb
            have HR5 := hid (HROW.out.keeps (Keeps.of_below (S := fun _ => False) HHB.out) (fun h => h))
            have HXG := hid (HXG.out.old HHB.out)
            have HXA := hid (HXA.out.old HHB.out)
            have HXD := hid (HXD.out.old HHB.out)
            have HOX := hid (HOX.out.old HHB.out)
            have HXV := hid (HXV.out.old HHB.out)
            have HXR := hid ((HHB.out.block _ (lt_of_heap HXR.out)).trans HXR.out)
            have HB := hid (below_step HB.out HHB.out (Nat.le_refl _))
            have hcy := HR5.out.cell HY.out
            have hfy := HR5.out.frozen m
            go_simp
            clear hcy hfy
            generalize hw : w5.setCell ⟨gs, m, none⟩ (.int .i64 (bits .xor .i64 y x)) = w6
            obtain ⟨hr6, K⟩ := HR5.out.set m (bits .xor .i64 y x)
            rw [hw] at hr6 K
            have hO := HOX.out.writeC HE.out (K.mono fun b _ hb => ⟨by have := (HOX.out.cells.own ci e HE.out).length; omega, by rw [HGS.out, hb]⟩) (by rw [HGS.out]; exact OwnS.of_row hr6 HBs.out)
            have hgr : gs ≠ w.heap.size + 1 + 1 + 1 := by have := HBs.out; omega
            have HXR := hid ((K.block _ (lt_of_heap HXR.out) (fun he => hgr he.symm)).trans HXR.out)
            have HXV := hid (HXV.out.keeps K (fun hq => HNE.out hq.symm))
            have HOX := hid hO
            have HB := hid (HB.out.trans (K.below (by have := HB.out.size; omega) (fun q hq hS => by have := HBs.out; omega)))
            clear hr6 K hO hw
            have v0 := HXV.out.c0
            have v1 := HXV.out.c1
            have v2 := HXV.out.c2
            have r0 := cell_of_row w6 (w.heap.size + 1 + 1 + 1) 0 _ 41 (0, 0) HXR.out
            have r1 := cell_of_row w6 (w.heap.size + 1 + 1 + 1) 1 _ 41 (0, 0) HXR.out
            have r2 := cell_of_row w6 (w.heap.size + 1 + 1 + 1) 2 _ 41 (0, 0) HXR.out
            have fr := fun j => frozen_of_row w6 (w.heap.size + 1 + 1 + 1) j _ 41 HXR.out
            simp only [List.getElem?_toArray, List.getElem?_cons_zero, List.getElem?_cons_succ] at r0 r1 r2
            have K : Keeps (fun b => b = w.heap.size + 1 + 1 + 1) w6 (((w6.setCell ⟨w.heap.size + 1 + 1 + 1, 0, none⟩ (.slice X.s0.a X.s0.n X.s0.c)).setCell ⟨w.heap.size + 1 + 1 + 1, 1, none⟩ (.slice X.s1.a X.s1.n X.s1.c)).setCell ⟨w.heap.size + 1 + 1 + 1, 2, none⟩ (.slice X.s2.a X.s2.n X.s2.c)) :=
              (((Keeps.refl (fun b => b = w.heap.size + 1 + 1 + 1) w6).set ⟨w.heap.size + 1 + 1 + 1, 0, none⟩ _ rfl).set ⟨w.heap.size + 1 + 1 + 1, 1, none⟩ _ rfl).set ⟨w.heap.size + 1 + 1 + 1, 2, none⟩ _ rfl
            have HK := hid K
            clear K
            go_wp2_with fail
            refine bodyPost_ret (v := .agg #[.slice X.s0.a X.s0.n X.s0.c, .slice X.s1.a X.s1.n X.s1.c, .slice X.s2.a X.s2.n X.s2.c]) (by simp [results, Try.results46, go_sem, r0, r1, r2]) rfl ⟨⟨X.s0, X.s1, X.s2, X.es.set ci ⟨e.a, e.n, e.c, e.xs.set m (bits .xor .i64 y x), e.p⟩, X.age, X.hits⟩, rfl, ?_, by rw [hT.out], ?_⟩
            · exact ((HOX.out.keeps HK.out (fun b hb hS => by have := hb.1; omega)).up (Nat.le_trans HOX.out.cells.row.le HK.out.size) (Nat.le_refl _)).mono (by omega)
            · exact HB.out.trans (HK.out.below (by have := HB.out.size; omega) (fun q hq hS => by omega))

set_option maxRecDepth 100000 in
theorem specFlipSymbol_any (G : Geo) (A : ArrE) (D : Adr) (c x : Int) (w : World) (hA : ArrR w A) (hs : A.d.small) :
    Calls Try.prog 45 #[.agg #[.int .i64 G.a, .int .i64 G.b, .int .i64 G.r, .int .i64 G.c], .agg #[.slice A.s0.a A.s0.n A.s0.c, .slice A.s1.a A.s1.n A.s1.c, .slice A.s2.a A.s2.n A.s2.c], .agg #[.int .i64 D.b, .int .i64 D.r, .int .i64 D.c], .int .i64 c, .int .i64 x] w fun e w' => ∃ A' : ArrE, e = .returned (.agg #[.slice A'.s0.a A'.s0.n A'.s0.c, .slice A'.s1.a A'.s1.n A'.s1.c, .slice A'.s2.a A'.s2.n A'.s2.c]) ∧ OwnA w' w.heap.size w'.heap.size A' ∧ A'.d = flipR G D A.d c x ∧ Below w.heap.size w w' := by
  have HA := hid hA
  have HS := hid hs
  clear hA hs
  go_enter Try.func45, Try.ntmps45
  go_wp2_with fail
  refine (specCopyArray_any A _ (HA.out.old (below_alloc4 _ _ _ _ _)) HS.out).mono ?_
  rintro e w1 ⟨X, rfl, OX, DX, B1⟩
  have HXG := hid (((((BoxG.new_ w 37 G (show _ = w.heap.size by simp)).old (below_alloc _ _)).old (below_alloc _ _)).old (below_alloc _ _)).old B1)
  have HXA := hid ((((BoxR.new_ (w.alloc _) 41 A (show _ = w.heap.size + 1 by simp)).old (below_alloc _ _)).old (below_alloc _ _)).old B1)
  have HXD := hid (((BoxA.new_ ((w.alloc _).alloc _) 64 D (show _ = w.heap.size + 1 + 1 by simp)).old (below_alloc _ _)).old B1)
  have XR : w1.heap[w.heap.size + 1 + 1 + 1]? = some (.cells #[.slice none 0 0, .slice none 0 0, .slice none 0 0] 41 (0, 0)) := by
    rw [B1.block _ (by simp)]
    have := heap_alloc_new (((w.alloc (.cells #[.int .i64 G.a, .int .i64 G.b, .int .i64 G.r, .int .i64 G.c] 37)).alloc (.cells #[.slice A.s0.a A.s0.n A.s0.c, .slice A.s1.a A.s1.n A.s1.c, .slice A.s2.a A.s2.n A.s2.c] 41)).alloc (.cells #[.int .i64 D.b, .int .i64 D.r, .int .i64 D.c] 64)) (.cells #[.slice none 0 0, .slice none 0 0, .slice none 0 0] 41)
    simpa using this
  have HB := hid (below_step (below_alloc4 _ _ _ _ _) B1 (Nat.le_refl _))
  have hsz1 := B1.size
  simp only [World.size_alloc] at hsz1
  have hoX := OX.mono (B' := w.heap.size + 1 + 1 + 1 + 1) (by simp)
  have HOX := hid hoX
  have HDX := hid DX
  have HXR := hid XR
  clear OX hoX DX XR B1
  have oG0 := HXG.out.c0
  have oG1 := HXG.out.c1
  have oG2 := HXG.out.c2
  have oG3 := HXG.out.c3
  have olG := HXG.out.lt
  have oA0 := HXA.out.c0
  have oA1 := HXA.out.c1
  have oA2 := HXA.out.c2
  have olA := HXA.out.lt
  have hwa : Below w1.heap.size w1 (w1.alloc (.cells #[.slice X.s0.a X.s0.n X.s0.c, .slice X.s1.a X.s1.n X.s1.c, .slice X.s2.a X.s2.n X.s2.c] 41)) := below_alloc _ _
  have HWA := hid hwa
  clear hwa
  have HXV := hid (BoxV.new w1 X)
  go_wp2_with fail
  clear oG0 oG1 oG2 oG3 olG oA0 oA1 oA2 olA
  have HXG := hid (HXG.out.old HWA.out)
  have HXA := hid (HXA.out.old HWA.out)
  have HXD := hid (HXD.out.old HWA.out)
  have HOX := hid (HOX.out.old HWA.out)
  have HXR := hid ((HWA.out.block _ (lt_of_heap HXR.out)).trans HXR.out)
  have HB := hid (below_step HB.out HWA.out (Nat.le_refl _))
  refine (specArrayOk_any G A _ (HA.out.old HB.out) HS.out).mono ?_
  rintro e w2 ⟨rfl, B⟩
  have HXG := hid (HXG.out.old B)
  have HXA := hid (HXA.out.old B)
  have HXD := hid (HXD.out.old B)
  have HOX := hid (HOX.out.old B)
  have HXV := hid (HXV.out.old B)
  have HXR := hid ((B.block _ (lt_of_heap HXR.out)).trans HXR.out)
  have HB := hid (below_step HB.out B (Nat.le_refl _))
  clear B
  cases k1 : arrOk G A.d with
  | false =>
    have hT := hid (show flipR G D A.d c x = A.d by unfold flipR; rw [k1]; simp)
    have v0 := HXV.out.c0
    have v1 := HXV.out.c1
    have v2 := HXV.out.c2
    have r0 := cell_of_row w2 (w.heap.size + 1 + 1 + 1) 0 _ 41 (0, 0) HXR.out
    have r1 := cell_of_row w2 (w.heap.size + 1 + 1 + 1) 1 _ 41 (0, 0) HXR.out
    have r2 := cell_of_row w2 (w.heap.size + 1 + 1 + 1) 2 _ 41 (0, 0) HXR.out
    have fr := fun j => frozen_of_row w2 (w.heap.size + 1 + 1 + 1) j _ 41 HXR.out
    simp only [List.getElem?_toArray, List.getElem?_cons_zero, List.getElem?_cons_succ] at r0 r1 r2
    have K : Keeps (fun b => b = w.heap.size + 1 + 1 + 1) w2 (((w2.setCell ⟨w.heap.size + 1 + 1 + 1, 0, none⟩ (.slice X.s0.a X.s0.n X.s0.c)).setCell ⟨w.heap.size + 1 + 1 + 1, 1, none⟩ (.slice X.s1.a X.s1.n X.s1.c)).setCell ⟨w.heap.size + 1 + 1 + 1, 2, none⟩ (.slice X.s2.a X.s2.n X.s2.c)) :=
      (((Keeps.refl (fun b => b = w.heap.size + 1 + 1 + 1) w2).set ⟨w.heap.size + 1 + 1 + 1, 0, none⟩ _ rfl).set ⟨w.heap.size + 1 + 1 + 1, 1, none⟩ _ rfl).set ⟨w.heap.size + 1 + 1 + 1, 2, none⟩ _ rfl
    have HK := hid K
    clear K
    go_wp2_with fail
    refine bodyPost_ret (v := .agg #[.slice X.s0.a X.s0.n X.s0.c, .slice X.s1.a X.s1.n X.s1.c, .slice X.s2.a X.s2.n X.s2.c]) (by simp [results, Try.results45, go_sem, r0, r1, r2]) rfl ⟨X, rfl, ?_, by rw [HDX.out, hT.out], ?_⟩
    · exact ((HOX.out.keeps HK.out (fun b hb hS => by have := hb.1; omega)).up (Nat.le_trans HOX.out.cells.row.le HK.out.size) (Nat.le_refl _)).mono (by omega)
    · exact HB.out.trans (HK.out.below (by have := HB.out.size; omega) (fun q hq hS => by omega))
  | true =>
    have oG0 := HXG.out.c0
    have oG1 := HXG.out.c1
    have oG2 := HXG.out.c2
    have oG3 := HXG.out.c3
    have olG := HXG.out.lt
    have oD0 := HXD.out.c0
    have oD1 := HXD.out.c1
    have oD2 := HXD.out.c2
    have olD := HXD.out.lt
    go_wp2_with fail
    clear oG0 oG1 oG2 oG3 olG oD0 oD1 oD2 olD
    refine (specAddrOk_any G D _).mono ?_
    rintro e w3 ⟨rfl, B⟩
    have HXG := hid (HXG.out.old B)
    have HXA := hid (HXA.out.old B)
    have HXD := hid (HXD.out.old B)
    have HOX := hid (HOX.out.old B)
    have HXV := hid (HXV.out.old B)
    have HXR := hid ((B.block _ (lt_of_heap HXR.out)).trans HXR.out)
    have HB := hid (below_step HB.out B (Nat.le_refl _))
    clear B
    cases k2 : adrOk G D with
    | false =>
      have hT := hid (show flipR G D A.d c x = A.d by unfold flipR; rw [k1, k2]; simp)
      have v0 := HXV.out.c0
      have v1 := HXV.out.c1
      have v2 := HXV.out.c2
      have r0 := cell_of_row w3 (w.heap.size + 1 + 1 + 1) 0 _ 41 (0, 0) HXR.out
      have r1 := cell_of_row w3 (w.heap.size + 1 + 1 + 1) 1 _ 41 (0, 0) HXR.out
      have r2 := cell_of_row w3 (w.heap.size + 1 + 1 + 1) 2 _ 41 (0, 0) HXR.out
      have fr := fun j => frozen_of_row w3 (w.heap.size + 1 + 1 + 1) j _ 41 HXR.out
      simp only [List.getElem?_toArray, List.getElem?_cons_zero, List.getElem?_cons_succ] at r0 r1 r2
      have K : Keeps (fun b => b = w.heap.size + 1 + 1 + 1) w3 (((w3.setCell ⟨w.heap.size + 1 + 1 + 1, 0, none⟩ (.slice X.s0.a X.s0.n X.s0.c)).setCell ⟨w.heap.size + 1 + 1 + 1, 1, none⟩ (.slice X.s1.a X.s1.n X.s1.c)).setCell ⟨w.heap.size + 1 + 1 + 1, 2, none⟩ (.slice X.s2.a X.s2.n X.s2.c)) :=
        (((Keeps.refl (fun b => b = w.heap.size + 1 + 1 + 1) w3).set ⟨w.heap.size + 1 + 1 + 1, 0, none⟩ _ rfl).set ⟨w.heap.size + 1 + 1 + 1, 1, none⟩ _ rfl).set ⟨w.heap.size + 1 + 1 + 1, 2, none⟩ _ rfl
      have HK := hid K
      clear K
      go_wp2_with fail
      refine bodyPost_ret (v := .agg #[.slice X.s0.a X.s0.n X.s0.c, .slice X.s1.a X.s1.n X.s1.c, .slice X.s2.a X.s2.n X.s2.c]) (by simp [results, Try.results45, go_sem, r0, r1, r2]) rfl ⟨X, rfl, ?_, by rw [HDX.out, hT.out], ?_⟩
      · exact ((HOX.out.keeps HK.out (fun b hb hS => by have := hb.1; omega)).up (Nat.le_trans HOX.out.cells.row.le HK.out.size) (Nat.le_refl _)).mono (by omega)
      · exact HB.out.trans (HK.out.below (by have := HB.out.size; omega) (fun q hq hS => by omega))
    | true =>
      cases k3 : inB c 0 10 with
      | false =>
        have hT := hid (show flipR G D A.d c x = A.d by unfold flipR; rw [k1, k2, k3]; simp)
        go_wp2_with fail
        refine (l01In_of k3).mono ?_
        rintro e w4 ⟨rfl, rfl⟩
        have v0 := HXV.out.c0
        have v1 := HXV.out.c1
        have v2 := HXV.out.c2
        have r0 := cell_of_row w3 (w.heap.size + 1 + 1 + 1) 0 _ 41 (0, 0) HXR.out
        have r1 := cell_of_row w3 (w.heap.size + 1 + 1 + 1) 1 _ 41 (0, 0) HXR.out
        have r2 := cell_of_row w3 (w.heap.size + 1 + 1 + 1) 2 _ 41 (0, 0) HXR.out
        have fr := fun j => frozen_of_row w3 (w.heap.size + 1 + 1 + 1) j _ 41 HXR.out
        simp only [List.getElem?_toArray, List.getElem?_cons_zero, List.getElem?_cons_succ] at r0 r1 r2
        have K : Keeps (fun b => b = w.heap.size + 1 + 1 + 1) w3 (((w3.setCell ⟨w.heap.size + 1 + 1 + 1, 0, none⟩ (.slice X.s0.a X.s0.n X.s0.c)).setCell ⟨w.heap.size + 1 + 1 + 1, 1, none⟩ (.slice X.s1.a X.s1.n X.s1.c)).setCell ⟨w.heap.size + 1 + 1 + 1, 2, none⟩ (.slice X.s2.a X.s2.n X.s2.c)) :=
          (((Keeps.refl (fun b => b = w.heap.size + 1 + 1 + 1) w3).set ⟨w.heap.size + 1 + 1 + 1, 0, none⟩ _ rfl).set ⟨w.heap.size + 1 + 1 + 1, 1, none⟩ _ rfl).set ⟨w.heap.size + 1 + 1 + 1, 2, none⟩ _ rfl
        have HK := hid K
        clear K
        go_wp2_with fail
        refine bodyPost_ret (v := .agg #[.slice X.s0.a X.s0.n X.s0.c, .slice X.s1.a X.s1.n X.s1.c, .slice X.s2.a X.s2.n X.s2.c]) (by simp [results, Try.results45, go_sem, r0, r1, r2]) rfl ⟨X, rfl, ?_, by rw [HDX.out, hT.out], ?_⟩
        · exact ((HOX.out.keeps HK.out (fun b hb hS => by have := hb.1; omega)).up (Nat.le_trans HOX.out.cells.row.le HK.out.size) (Nat.le_refl _)).mono (by omega)
        · exact HB.out.trans (HK.out.below (by have := HB.out.size; omega) (fun q hq hS => by omega))
      | true =>
        go_wp2_with fail
        refine (l01In_of k3).mono ?_
        rintro e w4 ⟨rfl, rfl⟩
        cases k4 : inB x 0 15 with
        | false =>
          have hT := hid (show flipR G D A.d c x = A.d by unfold flipR; rw [k1, k2, k3, k4]; simp)
          go_wp2_with fail
          refine (l11Is_any x _).mono ?_
          rintro e w4 ⟨rfl, rfl⟩
          rw [k4]
          have v0 := HXV.out.c0
          have v1 := HXV.out.c1
          have v2 := HXV.out.c2
          have r0 := cell_of_row w3 (w.heap.size + 1 + 1 + 1) 0 _ 41 (0, 0) HXR.out
          have r1 := cell_of_row w3 (w.heap.size + 1 + 1 + 1) 1 _ 41 (0, 0) HXR.out
          have r2 := cell_of_row w3 (w.heap.size + 1 + 1 + 1) 2 _ 41 (0, 0) HXR.out
          have fr := fun j => frozen_of_row w3 (w.heap.size + 1 + 1 + 1) j _ 41 HXR.out
          simp only [List.getElem?_toArray, List.getElem?_cons_zero, List.getElem?_cons_succ] at r0 r1 r2
          have K : Keeps (fun b => b = w.heap.size + 1 + 1 + 1) w3 (((w3.setCell ⟨w.heap.size + 1 + 1 + 1, 0, none⟩ (.slice X.s0.a X.s0.n X.s0.c)).setCell ⟨w.heap.size + 1 + 1 + 1, 1, none⟩ (.slice X.s1.a X.s1.n X.s1.c)).setCell ⟨w.heap.size + 1 + 1 + 1, 2, none⟩ (.slice X.s2.a X.s2.n X.s2.c)) :=
            (((Keeps.refl (fun b => b = w.heap.size + 1 + 1 + 1) w3).set ⟨w.heap.size + 1 + 1 + 1, 0, none⟩ _ rfl).set ⟨w.heap.size + 1 + 1 + 1, 1, none⟩ _ rfl).set ⟨w.heap.size + 1 + 1 + 1, 2, none⟩ _ rfl
          have HK := hid K
          clear K
          go_wp2_with fail
          refine bodyPost_ret (v := .agg #[.slice X.s0.a X.s0.n X.s0.c, .slice X.s1.a X.s1.n X.s1.c, .slice X.s2.a X.s2.n X.s2.c]) (by simp [results, Try.results45, go_sem, r0, r1, r2]) rfl ⟨X, rfl, ?_, by rw [HDX.out, hT.out], ?_⟩
          · exact ((HOX.out.keeps HK.out (fun b hb hS => by have := hb.1; omega)).up (Nat.le_trans HOX.out.cells.row.le HK.out.size) (Nat.le_refl _)).mono (by omega)
          · exact HB.out.trans (HK.out.below (by have := HB.out.size; omega) (fun q hq hS => by omega))
        | true =>
          obtain ⟨m, rfl⟩ : ∃ m : Nat, c = (m : Int) := ⟨c.toNat, by have := inB_iff.1 k3; omega⟩
          have hm : m < 11 := by have := inB_iff.1 k3; omega
          obtain ⟨ci, e, hi, he, hen, hxs⟩ := cell_idx (X := X) (D := D) k1 k2 HDX.out
          obtain ⟨y, hy⟩ : ∃ y, e.xs[m]? = some y := ⟨e.xs[m]'(by omega), List.getElem?_eq_getElem _⟩
          have hT := hid (flipR_yes (y := y) (e := e) (X := X) k1 k2 k3 k4 HDX.out hi he hy)
          have HI := hid hi
          have HE := hid he
          go_wp2_with fail
          refine (l11Is_any x _).mono ?_
          rintro e w4 ⟨rfl, rfl⟩
          rw [k4]
          obtain ⟨g0, hg0, hB0, hU0, hc0⟩ := HOX.out.cells.row.at_ encC_len he (show (encC e)[0]? = some (.slice e.a e.n e.c) from rfl)
          obtain ⟨gs, hgs, hBs, hrow⟩ := (HOX.out.cells.own ci e he).row (by have := (HOX.out.cells.own ci e he).length; omega)
          have hin : ci < X.s0.n := by have h1 := HOX.out.cells.len; have h2 := (List.getElem?_eq_some_iff.1 he).1; omega
          have hi0 : (0 : Int) ≤ (ci : Int) := by omega
          have hin' : (ci : Int) < (X.s0.n : Int) := by omega
          have hm0 : (0 : Int) ≤ (m : Int) := by omega
          have hmn : (m : Int) < (e.n : Int) := by have := (HOX.out.cells.own ci e he).length; omega
          have v0 := HXV.out.c0
          rw [hg0] at v0
          have V0 := hid v0
          have LV := hid HXV.out.lt
          have L0 : Hid (g0 < w3.heap.size) := hid (by have := HOX.out.cells.row.le; omega)
          have C0 : Hid (w3.cell? ⟨g0, ci * 2, none⟩ = some (.slice (some ⟨gs, 0, none⟩) e.n e.c)) := hid (by rw [← hgs]; simpa using hc0)
          have HG0 := hid hg0
          have HGS := hid hgs
          have HROW := hid hrow
          have HY := hid hy
          have hne1 : gs ≠ w1.heap.size := fun hq => ints_not (HOX.out.cells.own ci e he) HXV.out.hh (by decide) gs ⟨by have := (HOX.out.cells.own ci e he).length; omega, by rw [hgs]⟩ hq
          have HNE := hid hne1
          have HBs := hid hBs
          clear hgs hrow hy hne1 hBs hc0 v0 k1 k2 k3 k4 hi he hen hxs hg0 hB0 hU0
          go_wp2_with fail
          refine grows_of (fr := ?fr1)
            (fun i v w' => match i with
                | 0 => v = .pointer (some ⟨w1.heap.size, 0, none⟩)
                | 1 => v = .slice (some ⟨g0, 0, none⟩) X.s0.n X.s0.c
                | 2 => v = .agg #[.int .i64 G.a, .int .i64 G.b, .int .i64 G.r, .int .i64 G.c]
                | 3 => v = .agg #[.int .i64 D.b, .int .i64 D.r, .int .i64 D.c]
                | 4 => v = .int .i64 (ci : Int)
                | 5 => v = .pointer (some ⟨g0, ci * 2, none⟩)
                | 6 => v = .pointer (some ⟨g0, ci * 2, none⟩)
                | 7 => v = .slice (some ⟨gs, 0, none⟩) e.n e.c
                | _ => v = .slice (some ⟨gs, 0, none⟩) e.n e.c) (by kernel_rfl) (by kernel_rfl) ?hfr1 ⟨fun _ => undef, ?h01⟩ ?hF1 ?hstep1 ?hend1
          case hfr1 => intro vs; simp only [frOf]; go_simp; exact rfl
          case h01 => rfl
          case hF1 =>
            intro i v w' w'' h hb
            match i, h with
            | 0, h => exact h
            | 1, h => exact h
            | 2, h => exact h
            | 3, h => exact h
            | 4, h => exact h
            | 5, h => exact h
            | 6, h => exact h
            | 7, h => exact h
            | n + 8, h => exact h
          case hstep1 =>
            intro vs w' i o ho hb hd
            match i, ho with
            | 0, ho =>
              simp only [List.getElem?_cons_zero, Option.some.injEq] at ho
              subst ho
              refine ⟨wanted_none rfl, ?_⟩
              generalize hK : (fun (a' : Act) (w'' : World) => ∃ v : Value, _ ∧ _ ∧ _) = K
              go_simp
              rw [← hK]
              exact ⟨_, rfl, rfl, Below.refl _ _⟩
            | 1, ho =>
              simp only [List.getElem?_cons_succ, List.getElem?_cons_zero, Option.some.injEq] at ho
              subst ho
              refine ⟨wanted_none rfl, ?_⟩
              have e0 : vs 0 = .pointer (some ⟨w1.heap.size, 0, none⟩) := hd 0 (by kernel_rfl)
              have q := (hb.cell (p := ⟨w1.heap.size, 0, none⟩) LV.out).trans V0.out
              generalize hK : (fun (a' : Act) (w'' : World) => ∃ v : Value, _ ∧ _ ∧ _) = K
              go_simp
              rw [← hK]
              exact ⟨_, by simp [upd, e0], rfl, Below.refl _ _⟩
            | 2, ho =>
              simp only [List.getElem?_cons_succ, List.getElem?_cons_zero, Option.some.injEq] at ho
              subst ho
              refine ⟨wanted_none rfl, ?_⟩
              have c0 := (HXG.out.old hb).c0
              have c1 := (HXG.out.old hb).c1
              have c2 := (HXG.out.old hb).c2
              have c3 := (HXG.out.old hb).c3
              generalize hK : (fun (a' : Act) (w'' : World) => ∃ v : Value, _ ∧ _ ∧ _) = K
              go_simp
              rw [← hK]
              exact ⟨_, rfl, rfl, Below.refl _ _⟩
            | 3, ho =>
              simp only [List.getElem?_cons_succ, List.getElem?_cons_zero, Option.some.injEq] at ho
              subst ho
              refine ⟨wanted_none rfl, ?_⟩
              have c0 := (HXD.out.old hb).c0
              have c1 := (HXD.out.old hb).c1
              have c2 := (HXD.out.old hb).c2
              generalize hK : (fun (a' : Act) (w'' : World) => ∃ v : Value, _ ∧ _ ∧ _) = K
              go_simp
              rw [← hK]
              exact ⟨_, rfl, rfl, Below.refl _ _⟩
            | 4, ho =>
              simp only [List.getElem?_cons_succ, List.getElem?_cons_zero, Option.some.injEq] at ho
              subst ho
              refine ⟨wanted_none rfl, ?_⟩
              have e2 : Hid (vs 2 = .agg #[.int .i64 G.a, .int .i64 G.b, .int .i64 G.r, .int .i64 G.c]) := hd 2 (by kernel_rfl)
              have e3 : Hid (vs 3 = .agg #[.int .i64 D.b, .int .i64 D.r, .int .i64 D.c]) := hd 3 (by kernel_rfl)
              generalize hK : (fun (a' : Act) (w'' : World) => ∃ v : Value, _ ∧ _ ∧ _) = K
              go_simp
              refine (calls_args (by rw [e2.out, e3.out]) (specAddrIndex_any G D _)).mono ?_
              rintro e w2 ⟨rfl, B⟩
              rw [← hK]
              exact ⟨_, rfl, congrArg (Value.int .i64) HI.out, B⟩
            | 5, ho =>
              simp only [List.getElem?_cons_succ, List.getElem?_cons_zero, Option.some.injEq] at ho
              subst ho
              refine ⟨wanted_none rfl, ?_⟩
              have e1 : vs 1 = .slice (some ⟨g0, 0, none⟩) X.s0.n X.s0.c := hd 1 (by kernel_rfl)
              have e4 : vs 4 = .int .i64 (ci : Int) := hd 4 (by kernel_rfl)
              generalize hK : (fun (a' : Act) (w'' : World) => ∃ v : Value, _ ∧ _ ∧ _) = K
              go_simp
              rw [← hK]
              exact ⟨_, by simp [upd, e1, e4], rfl, Below.refl _ _⟩
            | 6, ho =>
              simp only [List.getElem?_cons_succ, List.getElem?_cons_zero, Option.some.injEq] at ho
              subst ho
              refine ⟨wanted_none rfl, ?_⟩
              have e5 : vs 5 = .pointer (some ⟨g0, ci * 2, none⟩) := hd 5 (by kernel_rfl)
              generalize hK : (fun (a' : Act) (w'' : World) => ∃ v : Value, _ ∧ _ ∧ _) = K
              go_simp
              rw [← hK]
              exact ⟨_, by simp [upd, e5], rfl, Below.refl _ _⟩
            | 7, ho =>
              simp only [List.getElem?_cons_succ, List.getElem?_cons_zero, Option.some.injEq] at ho
              subst ho
              refine ⟨wanted_none rfl, ?_⟩
              have e6 : vs 6 = .pointer (some ⟨g0, ci * 2, none⟩) := hd 6 (by kernel_rfl)
              have q := (hb.cell (p := ⟨g0, ci * 2, none⟩) L0.out).trans C0.out
              generalize hK : (fun (a' : Act) (w'' : World) => ∃ v : Value, _ ∧ _ ∧ _) = K
              go_simp
              rw [← hK]
              exact ⟨_, by simp [upd, e6], rfl, Below.refl _ _⟩
            | 8, ho =>
              simp only [List.getElem?_cons_succ, List.getElem?_cons_zero, Option.some.injEq] at ho
              subst ho
              refine ⟨wanted_none rfl, ?_⟩
              have e7 : vs 7 = .slice (some ⟨gs, 0, none⟩) e.n e.c := hd 7 (by kernel_rfl)
              generalize hK : (fun (a' : Act) (w'' : World) => ∃ v : Value, _ ∧ _ ∧ _) = K
              go_simp
              rw [← hK]
              exact ⟨_, by simp [upd, e7], rfl, Below.refl _ _⟩
            | n + 9, ho => simp at ho
          case hend1 =>
            intro vs w5 hb hf
            have er : vs 8 = .slice (some ⟨gs, 0, none⟩) e.n e.c := hf 8 (by decide)
            generalize vs 8 = ur at er ⊢
            subst er
            have HHB := hid hb
            clear hf hb
            have HR5 := hid (HROW.out.keeps (Keeps.of_below (S := fun _ => False) HHB.out) (fun h => h))
            have HXG := hid (HXG.out.old HHB.out)
            have HXA := hid (HXA.out.old HHB.out)
            have HXD := hid (HXD.out.old HHB.out)
            have HOX := hid (HOX.out.old HHB.out)
            have HXV := hid (HXV.out.old HHB.out)
            have HXR := hid ((HHB.out.block _ (lt_of_heap HXR.out)).trans HXR.out)
            have HB := hid (below_step HB.out HHB.out (Nat.le_refl _))
            have hcy := HR5.out.cell HY.out
            have hfy := HR5.out.frozen m
            obtain ⟨hr6, K⟩ := HR5.out.set m (bits .xor .i64 y x)
            have hO := HOX.out.writeC HE.out (K.mono fun b _ hb => ⟨by have := (HOX.out.cells.own ci e HE.out).length; omega, by rw [HGS.out, hb]⟩) (by rw [HGS.out]; exact OwnS.of_row hr6 HBs.out)
            have hgr : gs ≠ w.heap.size + 1 + 1 + 1 := by have := HBs.out; omega
            have HXR := hid ((K.block _ (lt_of_heap HXR.out) (fun he => hgr he.symm)).trans HXR.out)
            have HXV := hid (HXV.out.keeps K (fun hq => HNE.out hq.symm))
            have HOX := hid hO
            have HB := hid (HB.out.trans (K.below (by have := HB.out.size; omega) (fun q hq hS => by have := HBs.out; omega)))
            clear hr6 K hO
            have v0 := HXV.out.c0
            have v1 := HXV.out.c1
            have v2 := HXV.out.c2
            have r0 := cell_of_row (w5.setCell ⟨gs, m, none⟩ (.int .i64 (bits .xor .i64 y x))) (w.heap.size + 1 + 1 + 1) 0 _ 41 (0, 0) HXR.out
            have r1 := cell_of_row (w5.setCell ⟨gs, m, none⟩ (.int .i64 (bits .xor .i64 y x))) (w.heap.size + 1 + 1 + 1) 1 _ 41 (0, 0) HXR.out
            have r2 := cell_of_row (w5.setCell ⟨gs, m, none⟩ (.int .i64 (bits .xor .i64 y x))) (w.heap.size + 1 + 1 + 1) 2 _ 41 (0, 0) HXR.out
            have fr := fun j => frozen_of_row (w5.setCell ⟨gs, m, none⟩ (.int .i64 (bits .xor .i64 y x))) (w.heap.size + 1 + 1 + 1) j _ 41 HXR.out
            simp only [List.getElem?_toArray, List.getElem?_cons_zero, List.getElem?_cons_succ] at r0 r1 r2
            have K : Keeps (fun b => b = w.heap.size + 1 + 1 + 1) (w5.setCell ⟨gs, m, none⟩ (.int .i64 (bits .xor .i64 y x))) ((((w5.setCell ⟨gs, m, none⟩ (.int .i64 (bits .xor .i64 y x))).setCell ⟨w.heap.size + 1 + 1 + 1, 0, none⟩ (.slice X.s0.a X.s0.n X.s0.c)).setCell ⟨w.heap.size + 1 + 1 + 1, 1, none⟩ (.slice X.s1.a X.s1.n X.s1.c)).setCell ⟨w.heap.size + 1 + 1 + 1, 2, none⟩ (.slice X.s2.a X.s2.n X.s2.c)) :=
              (((Keeps.refl (fun b => b = w.heap.size + 1 + 1 + 1) (w5.setCell ⟨gs, m, none⟩ (.int .i64 (bits .xor .i64 y x)))).set ⟨w.heap.size + 1 + 1 + 1, 0, none⟩ _ rfl).set ⟨w.heap.size + 1 + 1 + 1, 1, none⟩ _ rfl).set ⟨w.heap.size + 1 + 1 + 1, 2, none⟩ _ rfl
            have HK := hid K
            clear K
            go_wp2_with fail
            refine bodyPost_ret (v := .agg #[.slice X.s0.a X.s0.n X.s0.c, .slice X.s1.a X.s1.n X.s1.c, .slice X.s2.a X.s2.n X.s2.c]) (by simp [results, Try.results45, go_sem, r0, r1, r2]) rfl ⟨⟨X.s0, X.s1, X.s2, X.es.set ci ⟨e.a, e.n, e.c, e.xs.set m (bits .xor .i64 y x), e.p⟩, X.age, X.hits⟩, rfl, ?_, by rw [hT.out], ?_⟩
            · exact ((HOX.out.keeps HK.out (fun b hb hS => by have := hb.1; omega)).up (Nat.le_trans HOX.out.cells.row.le HK.out.size) (Nat.le_refl _)).mono (by omega)
            · exact HB.out.trans (HK.out.below (by have := HB.out.size; omega) (fun q hq hS => by omega))
end Go.Proofs.Ytnfkkkjookfdiaa
