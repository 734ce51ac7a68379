/- StoreCell: what the program's and the reference's return. -/
import Derived.Test.YtnfkkkjookfdiaaFlpW
namespace Go.Proofs.Ytnfkkkjookfdiaa
open Go.RowKit

theorem below_alloc5 (w : World) (o1 o2 o3 o4 o5 : Obj) : Below w.heap.size w (((((w.alloc o1).alloc o2).alloc o3).alloc o4).alloc o5) := (below_alloc4 w o1 o2 o3 o4).alloc (by simp; omega) _
def storeR (G : Geo) (D : Adr) (q : List Int × Bool) (A : ArrD) : ArrD := if arrOk G A && adrOk G D && symOk q.1 11 then ⟨A.cells.set (adrIdx G D).toNat q, A.age, A.hits⟩ else A
theorem storeR_small {G : Geo} {D : Adr} {q : List Int × Bool} {A : ArrD} (h : A.small) : (storeR G D q A).small := by
  unfold storeR
  split
  · rename_i hk
    simp only [Bool.and_eq_true] at hk
    obtain ⟨⟨k1, k2⟩, k3⟩ := hk
    obtain ⟨_, _, _, _, hc⟩ := arrOk_parts k1
    refine small_of_lens h ?_ rfl rfl
    show (A.cells.set _ _).map (fun q => q.1.length) = A.cells.map (fun q => q.1.length)
    rw [List.map_set]
    generalize (adrIdx G D).toNat = i
    cases hx : A.cells[i]? with
    | none => rw [List.set_eq_of_length_le (by rw [List.length_map]; exact List.getElem?_eq_none_iff.1 hx)]
    | some r =>
      refine set_same ?_
      rw [List.getElem?_map, hx]
      unfold cellsOk at hc
      rw [List.all_eq_true] at hc
      have h1 := symOk_len (n := 11) (hc r (List.mem_of_getElem? hx))
      have h2 := symOk_len (n := 11) k3
      simp [h1, h2]
  · exact h
theorem storeR_yes {G : Geo} {D : Adr} {A : ArrD} {i : Nat} {E : CellE} {X : ArrE} {ya : Option Addr} {yc : Nat} (k1 : arrOk G A = true) (k2 : adrOk G D = true) (k3 : symOk E.xs 11 = true) (hd : X.d = A) (hi : adrIdx G D = (i : Int)) :
    storeR G D E.d A = (⟨X.s0, X.s1, X.s2, X.es.set i ⟨ya, E.n, yc, E.xs, E.p⟩, X.age, X.hits⟩ : ArrE).d := by
  subst hd
  unfold storeR
  rw [k1, k2, show symOk E.d.1 11 = true from k3]
  simp only [Bool.and_self, if_true]
  rw [hi, Int.toNat_natCast]
  simp only [ArrE.d, List.map_set, CellE.d]
theorem OwnA.storeC {w w2 w3 : World} {B U g i : Nat} {X : ArrE} {z y : CellE} (h : OwnA w B U X) (hg : X.s0.a = some ⟨g, 0, none⟩) (hz : X.es[i]? = some z) (hb : Below w.heap.size w w2) (hy : OwnS w2 w.heap.size y.a y.n y.c y.xs)
    (hw : w3 = (w2.setCell ⟨g, i * 2, none⟩ (.slice y.a y.n y.c)).setCell ⟨g, i * 2 + 1, none⟩ (.bool y.p)) :
    OwnA w3 B w3.heap.size ⟨X.s0, X.s1, X.s2, X.es.set i y, X.age, X.hits⟩ ∧ Keeps (· = g) w2 w3 ∧ B ≤ g ∧ g < w.heap.size ∧
      w2.cell? ⟨g, i * 2, none⟩ = some (.slice z.a z.n z.c) ∧ w2.cell? ⟨g, i * 2 + 1, none⟩ = some (.bool z.p) ∧ w2.frozen? ⟨g, i * 2, none⟩ = false ∧ w2.frozen? ⟨g, i * 2 + 1, none⟩ = false := by
  have h1 := (h.up h.cells.row.le (Nat.le_refl _)).cells
  rw [hg] at h1
  obtain ⟨hO, K, r1, r2, r3⟩ := h1.store hz hb hy hw
  have hUw := h.cells.row.le
  have hs : w.heap.size ≤ w3.heap.size := Nat.le_trans hb.size K.size
  have key : ∀ (j : Nat) (f : CellE), (X.es.set i y)[j]? = some f → f = y ∨ X.es[j]? = some f := by
    intro j f hf
    rw [List.getElem?_set] at hf
    by_cases hij : i = j
    · subst hij
      have hi := (List.getElem?_eq_some_iff.1 hz).1
      simp only [if_true, hi, Option.some.injEq] at hf
      exact .inl hf.symm
    · rw [if_neg hij] at hf
      exact .inr hf
  have hob : ∀ b, b = g → (Value.slice X.s0.a X.s0.n X.s0.c).ownBlock = some b := fun b hq => by rw [hg, hq]; rfl
  refine ⟨⟨by rw [hg]; exact hO, (h.age.old hb).keeps K (fun b hb' hS => h.cells.not_sym h.age hb' (hob b hS)), (h.hits.old hb).keeps K (fun b hb' hS => h.cells.not_sym h.hits hb' (hob b hS)),
    fun b hb' => by have := h.t1 b hb'; omega, fun b hb' => by have := h.t2 b hb'; omega, h.a12, fun j f hf b hb1 hb2 => ?_, fun j f hf b hb1 hb2 => ?_⟩, K, r1, r2, r3⟩
  · rcases key j f hf with rfl | hf'
    · have := (hy.lt hb1).1; have := h.t1 b hb2; omega
    · exact h.a01 j f hf' b hb1 hb2
  · rcases key j f hf with rfl | hf'
    · have := (hy.lt hb1).1; have := h.t2 b hb2; omega
    · exact h.a02 j f hf' b hb1 hb2
set_option maxRecDepth 100000 in
theorem implStoreCell_any (G : Geo) (A : ArrE) (D : Adr) (E : CellE) (w : World) (hA : ArrR w A) (hs : A.d.small) (hE : IntsR w E.a E.xs) (hEn : E.n = E.xs.length) (hEl : E.xs.length ≤ 1048576) :
    Calls Try.prog 50 #[.agg #[.int .i64 G.a, .int .i64 G.b, .int .i64 G.r, .int .i64 G.c], .agg #[.slice A.s0.a A.s0.n A.s0.c, .slice A.s1.a A.s1.n A.s1.c, .slice A.s2.a A.s2.n A.s2.c], .agg #[.int .i64 D.b, .int .i64 D.r, .int .i64 D.c], .agg #[.slice E.a E.n E.c, .bool E.p]] w fun e w' => ∃ A' : ArrE, e = .returned (.agg #[.slice A'.s0.a A'.s0.n A'.s0.c, .slice A'.s1.a A'.s1.n A'.s1.c, .slice A'.s2.a A'.s2.n A'.s2.c]) ∧ OwnA w' w.heap.size w'.heap.size A' ∧ A'.d = storeR G D E.d A.d ∧ Below w.heap.size w w' := by
  have HA := hid hA
  have HS := hid hs
  clear hA hs
  have HE := hid hE
  have HEN := hid hEn
  clear hE hEn
  go_enter Try.func50, Try.ntmps50
  go_wp2_with fail
  refine (implCopyArray_any A _ (HA.out.old (below_alloc5 _ _ _ _ _ _)) HS.out).mono ?_
  rintro e w1 ⟨X, rfl, OX, DX, B1⟩
  have HXG := hid ((((((BoxG.new_ w 37 G (show _ = w.heap.size by simp)).old (below_alloc _ _)).old (below_alloc _ _)).old (below_alloc _ _)).old (below_alloc _ _)).old B1)
  have HXA := hid (((((BoxR.new_ (w.alloc _) 41 A (show _ = w.heap.size + 1 by simp)).old (below_alloc _ _)).old (below_alloc _ _)).old (below_alloc _ _)).old B1)
  have HXD := hid ((((BoxA.new_ ((w.alloc _).alloc _) 64 D (show _ = w.heap.size + 1 + 1 by simp)).old (below_alloc _ _)).old (below_alloc _ _)).old B1)
  have HXE := hid (((BoxE.new_ (((w.alloc _).alloc _).alloc _) 61 E (show _ = w.heap.size + 1 + 1 + 1 by simp)).old (below_alloc _ _)).old B1)
  have XR : w1.heap[w.heap.size + 1 + 1 + 1 + 1]? = some (.cells #[.slice none 0 0, .slice none 0 0, .slice none 0 0] 41 (0, 0)) := by
    rw [B1.block _ (by simp)]
    have := heap_alloc_new ((((w.alloc (.cells #[.int .i64 G.a, .int .i64 G.b, .int .i64 G.r, .int .i64 G.c] 37)).alloc (.cells #[.slice A.s0.a A.s0.n A.s0.c, .slice A.s1.a A.s1.n A.s1.c, .slice A.s2.a A.s2.n A.s2.c] 41)).alloc (.cells #[.int .i64 D.b, .int .i64 D.r, .int .i64 D.c] 64)).alloc (.cells #[.slice E.a E.n E.c, .bool E.p] 61)) (.cells #[.slice none 0 0, .slice none 0 0, .slice none 0 0] 41)
    simpa using this
  have HB := hid (below_step (below_alloc5 _ _ _ _ _ _) B1 (Nat.le_refl _))
  have hsz1 := B1.size
  simp only [World.size_alloc] at hsz1
  have hoX := OX.mono (B' := w.heap.size + 1 + 1 + 1 + 1 + 1) (by simp)
  have HOX := hid hoX
  have HDX := hid DX
  have HXR := hid XR
  clear OX hoX DX XR B1
  have oG0 := HXG.out.c0
  have oG1 := HXG.out.c1
  have oG2 := HXG.out.c2
  have oG3 := HXG.out.c3
  have olG := HXG.out.lt
  have oA0 := HXA.out.c0
  have oA1 := HXA.out.c1
  have oA2 := HXA.out.c2
  have olA := HXA.out.lt
  have hwa : Below w1.heap.size w1 (w1.alloc (.cells #[.slice X.s0.a X.s0.n X.s0.c, .slice X.s1.a X.s1.n X.s1.c, .slice X.s2.a X.s2.n X.s2.c] 41)) := below_alloc _ _
  have HWA := hid hwa
  clear hwa
  have HXV := hid (BoxV.new w1 X)
  go_wp2_with fail
  clear oG0 oG1 oG2 oG3 olG oA0 oA1 oA2 olA
  have HXG := hid (HXG.out.old HWA.out)
  have HXA := hid (HXA.out.old HWA.out)
  have HXD := hid (HXD.out.old HWA.out)
  have HXE := hid (HXE.out.old HWA.out)
  have HOX := hid (HOX.out.old HWA.out)
  have HXR := hid ((HWA.out.block _ (lt_of_heap HXR.out)).trans HXR.out)
  have HB := hid (below_step HB.out HWA.out (Nat.le_refl _))
  refine (implArrayOk_any G A _ (HA.out.old HB.out) HS.out).mono ?_
  rintro e w2 ⟨rfl, B⟩
  have HXG := hid (HXG.out.old B)
  have HXA := hid (HXA.out.old B)
  have HXD := hid (HXD.out.old B)
  have HXE := hid (HXE.out.old B)
  have HOX := hid (HOX.out.old B)
  have HXV := hid (HXV.out.old B)
  have HXR := hid ((B.block _ (lt_of_heap HXR.out)).trans HXR.out)
  have HB := hid (below_step HB.out B (Nat.le_refl _))
  clear B
  cases k1 : arrOk G A.d with
  | false =>
    have hT := hid (show storeR G D E.d A.d = A.d by unfold storeR; rw [k1]; simp)
    have v0 := HXV.out.c0
    have v1 := HXV.out.c1
    have v2 := HXV.out.c2
    have r0 := cell_of_row w2 (w.heap.size + 1 + 1 + 1 + 1) 0 _ 41 (0, 0) HXR.out
    have r1 := cell_of_row w2 (w.heap.size + 1 + 1 + 1 + 1) 1 _ 41 (0, 0) HXR.out
    have r2 := cell_of_row w2 (w.heap.size + 1 + 1 + 1 + 1) 2 _ 41 (0, 0) HXR.out
    have fr := fun j => frozen_of_row w2 (w.heap.size + 1 + 1 + 1 + 1) j _ 41 HXR.out
    simp only [List.getElem?_toArray, List.getElem?_cons_zero, List.getElem?_cons_succ] at r0 r1 r2
    have K : Keeps (fun b => b = w.heap.size + 1 + 1 + 1 + 1) w2 (((w2.setCell ⟨w.heap.size + 1 + 1 + 1 + 1, 0, none⟩ (.slice X.s0.a X.s0.n X.s0.c)).setCell ⟨w.heap.size + 1 + 1 + 1 + 1, 1, none⟩ (.slice X.s1.a X.s1.n X.s1.c)).setCell ⟨w.heap.size + 1 + 1 + 1 + 1, 2, none⟩ (.slice X.s2.a X.s2.n X.s2.c)) :=
      (((Keeps.refl (fun b => b = w.heap.size + 1 + 1 + 1 + 1) w2).set ⟨w.heap.size + 1 + 1 + 1 + 1, 0, none⟩ _ rfl).set ⟨w.heap.size + 1 + 1 + 1 + 1, 1, none⟩ _ rfl).set ⟨w.heap.size + 1 + 1 + 1 + 1, 2, none⟩ _ rfl
    have HK := hid K
    clear K
    go_wp2_with fail
    refine bodyPost_ret (v := .agg #[.slice X.s0.a X.s0.n X.s0.c, .slice X.s1.a X.s1.n X.s1.c, .slice X.s2.a X.s2.n X.s2.c]) (by simp [results, Try.results50, go_sem, r0, r1, r2]) rfl ⟨X, rfl, ?_, by rw [HDX.out, hT.out], ?_⟩
    · exact ((HOX.out.keeps HK.out (fun b hb hS => by have := hb.1; omega)).up (Nat.le_trans HOX.out.cells.row.le HK.out.size) (Nat.le_refl _)).mono (by omega)
    · exact HB.out.trans (HK.out.below (by have := HB.out.size; omega) (fun q hq hS => by omega))
  | true =>
    have oG0 := HXG.out.c0
    have oG1 := HXG.out.c1
    have oG2 := HXG.out.c2
    have oG3 := HXG.out.c3
    have olG := HXG.out.lt
    have oD0 := HXD.out.c0
    have oD1 := HXD.out.c1
    have oD2 := HXD.out.c2
    have olD := HXD.out.lt
    go_wp2_with fail
    clear oG0 oG1 oG2 oG3 olG oD0 oD1 oD2 olD
    refine (implAddrOk_any G D _).mono ?_
    rintro e w3 ⟨rfl, B⟩
    have HXG := hid (HXG.out.old B)
    have HXA := hid (HXA.out.old B)
    have HXD := hid (HXD.out.old B)
    have HXE := hid (HXE.out.old B)
    have HOX := hid (HOX.out.old B)
    have HXV := hid (HXV.out.old B)
    have HXR := hid ((B.block _ (lt_of_heap HXR.out)).trans HXR.out)
    have HB := hid (below_step HB.out B (Nat.le_refl _))
    clear B
    cases k2 : adrOk G D with
    | false =>
      have hT := hid (show storeR G D E.d A.d = A.d by unfold storeR; rw [k1, k2]; simp)
      have v0 := HXV.out.c0
      have v1 := HXV.out.c1
      have v2 := HXV.out.c2
      have r0 := cell_of_row w3 (w.heap.size + 1 + 1 + 1 + 1) 0 _ 41 (0, 0) HXR.out
      have r1 := cell_of_row w3 (w.heap.size + 1 + 1 + 1 + 1) 1 _ 41 (0, 0) HXR.out
      have r2 := cell_of_row w3 (w.heap.size + 1 + 1 + 1 + 1) 2 _ 41 (0, 0) HXR.out
      have fr := fun j => frozen_of_row w3 (w.heap.size + 1 + 1 + 1 + 1) j _ 41 HXR.out
      simp only [List.getElem?_toArray, List.getElem?_cons_zero, List.getElem?_cons_succ] at r0 r1 r2
      have K : Keeps (fun b => b = w.heap.size + 1 + 1 + 1 + 1) w3 (((w3.setCell ⟨w.heap.size + 1 + 1 + 1 + 1, 0, none⟩ (.slice X.s0.a X.s0.n X.s0.c)).setCell ⟨w.heap.size + 1 + 1 + 1 + 1, 1, none⟩ (.slice X.s1.a X.s1.n X.s1.c)).setCell ⟨w.heap.size + 1 + 1 + 1 + 1, 2, none⟩ (.slice X.s2.a X.s2.n X.s2.c)) :=
        (((Keeps.refl (fun b => b = w.heap.size + 1 + 1 + 1 + 1) w3).set ⟨w.heap.size + 1 + 1 + 1 + 1, 0, none⟩ _ rfl).set ⟨w.heap.size + 1 + 1 + 1 + 1, 1, none⟩ _ rfl).set ⟨w.heap.size + 1 + 1 + 1 + 1, 2, none⟩ _ rfl
      have HK := hid K
      clear K
      go_wp2_with fail
      refine bodyPost_ret (v := .agg #[.slice X.s0.a X.s0.n X.s0.c, .slice X.s1.a X.s1.n X.s1.c, .slice X.s2.a X.s2.n X.s2.c]) (by simp [results, Try.results50, go_sem, r0, r1, r2]) rfl ⟨X, rfl, ?_, by rw [HDX.out, hT.out], ?_⟩
      · exact ((HOX.out.keeps HK.out (fun b hb hS => by have := hb.1; omega)).up (Nat.le_trans HOX.out.cells.row.le HK.out.size) (Nat.le_refl _)).mono (by omega)
      · exact HB.out.trans (HK.out.below (by have := HB.out.size; omega) (fun q hq hS => by omega))
    | true =>
      have oE0 := HXE.out.c0
      have oE1 := HXE.out.c1
      have olE := HXE.out.lt
      go_wp2_with fail
      clear oE0 oE1 olE
      refine (implSymbolsOk_any _ _ _ 11 E.xs _ (HE.out.old HB.out) HEN.out hEl).mono ?_
      rintro e w4 ⟨rfl, q, hq⟩
      have B : Below w3.heap.size w3 w4 := by rw [hq]; exact below_ofDrewN _ _ _
      have HXG := hid (HXG.out.old B)
      have HXA := hid (HXA.out.old B)
      have HXD := hid (HXD.out.old B)
      have HXE := hid (HXE.out.old B)
      have HOX := hid (HOX.out.old B)
      have HXV := hid (HXV.out.old B)
      have HXR := hid ((B.block _ (lt_of_heap HXR.out)).trans HXR.out)
      have HB := hid (below_step HB.out B (Nat.le_refl _))
      clear B hq
      cases k3 : symOk E.xs 11 with
      | false =>
        have hT := hid (show storeR G D E.d A.d = A.d by unfold storeR; rw [k1, k2, show symOk E.d.1 11 = false from k3]; simp)
        have v0 := HXV.out.c0
        have v1 := HXV.out.c1
        have v2 := HXV.out.c2
        have r0 := cell_of_row w4 (w.heap.size + 1 + 1 + 1 + 1) 0 _ 41 (0, 0) HXR.out
        have r1 := cell_of_row w4 (w.heap.size + 1 + 1 + 1 + 1) 1 _ 41 (0, 0) HXR.out
        have r2 := cell_of_row w4 (w.heap.size + 1 + 1 + 1 + 1) 2 _ 41 (0, 0) HXR.out
        have fr := fun j => frozen_of_row w4 (w.heap.size + 1 + 1 + 1 + 1) j _ 41 HXR.out
        simp only [List.getElem?_toArray, List.getElem?_cons_zero, List.getElem?_cons_succ] at r0 r1 r2
        have K : Keeps (fun b => b = w.heap.size + 1 + 1 + 1 + 1) w4 (((w4.setCell ⟨w.heap.size + 1 + 1 + 1 + 1, 0, none⟩ (.slice X.s0.a X.s0.n X.s0.c)).setCell ⟨w.heap.size + 1 + 1 + 1 + 1, 1, none⟩ (.slice X.s1.a X.s1.n X.s1.c)).setCell ⟨w.heap.size + 1 + 1 + 1 + 1, 2, none⟩ (.slice X.s2.a X.s2.n X.s2.c)) :=
          (((Keeps.refl (fun b => b = w.heap.size + 1 + 1 + 1 + 1) w4).set ⟨w.heap.size + 1 + 1 + 1 + 1, 0, none⟩ _ rfl).set ⟨w.heap.size + 1 + 1 + 1 + 1, 1, none⟩ _ rfl).set ⟨w.heap.size + 1 + 1 + 1 + 1, 2, none⟩ _ rfl
        have HK := hid K
        clear K
        go_wp2_with fail
        refine bodyPost_ret (v := .agg #[.slice X.s0.a X.s0.n X.s0.c, .slice X.s1.a X.s1.n X.s1.c, .slice X.s2.a X.s2.n X.s2.c]) (by simp [results, Try.results50, go_sem, r0, r1, r2]) rfl ⟨X, rfl, ?_, by rw [HDX.out, hT.out], ?_⟩
        · exact ((HOX.out.keeps HK.out (fun b hb hS => by have := hb.1; omega)).up (Nat.le_trans HOX.out.cells.row.le HK.out.size) (Nat.le_refl _)).mono (by omega)
        · exact HB.out.trans (HK.out.below (by have := HB.out.size; omega) (fun q hq hS => by omega))
      | true =>
        obtain ⟨ci, e, hi, he, hen, hxs⟩ := cell_idx (X := X) (D := D) k1 k2 HDX.out
        have hT0 := fun (ya : Option Addr) (yc : Nat) => storeR_yes (ya := ya) (yc := yc) (E := E) (X := X) k1 k2 k3 HDX.out hi
        have hT := hid hT0
        clear hT0
        have HI := hid hi
        have HE0 := hid he
        obtain ⟨g0, hg0, hB0, hU0, hc0⟩ := HOX.out.cells.row.at_ encC_len he (show (encC e)[0]? = some (.slice e.a e.n e.c) from rfl)
        have hin : ci < X.s0.n := by have h1 := HOX.out.cells.len; have h2 := (List.getElem?_eq_some_iff.1 he).1; omega
        have hi0 : (0 : Int) ≤ (ci : Int) := by omega
        have hin' : (ci : Int) < (X.s0.n : Int) := by omega
        have v0 := HXV.out.c0
        rw [hg0] at v0
        have V0 := hid v0
        have LV := hid HXV.out.lt
        have HG0 := hid hg0
        have hne1 : g0 ≠ w1.heap.size := fun hq => row_not HOX.out.cells.row HXV.out.hh (by decide) (by rw [hg0, hq]; rfl)
        have HNE := hid hne1
        have HB0 := hid hB0
        clear hne1 hc0 v0 k1 k2 k3 hi he hen hxs hg0 hB0 hU0
        go_wp2_with fail
        refine grow_of 8 (fr := ?fr1)
          (fun i v w' => match i with
              | 0 => v = .pointer (some ⟨w1.heap.size, 0, none⟩)
              | 1 => v = .slice (some ⟨g0, 0, none⟩) X.s0.n X.s0.c
              | 2 => v = .agg #[.int .i64 G.a, .int .i64 G.b, .int .i64 G.r, .int .i64 G.c]
              | 3 => v = .agg #[.int .i64 D.b, .int .i64 D.r, .int .i64 D.c]
              | 4 => v = .int .i64 (ci : Int)
              | 5 => v = .agg #[.slice E.a E.n E.c, .bool E.p]
              | 6 => ∃ (a' : Option Addr) (c' : Nat), v = .agg #[.slice a' E.n c', .bool E.p] ∧ OwnS w' w4.heap.size a' E.n c' E.xs
              | _ => v = .pointer (some ⟨g0, ci * 2, none⟩)) (by kernel_rfl) (by kernel_rfl) rfl ?hlast1 ?hfr1 ⟨fun _ => undef, ?h01⟩ ?hF1 ?hstep1 ?hend1
        case hfr1 => intro vs; simp only [frOf, List.take_succ_cons, List.take_zero]; go_simp; exact rfl
        case h01 => rfl
        case hlast1 =>
          intro o ho i hi
          simp only [List.getElem?_cons_succ, List.getElem?_cons_zero, Option.some.injEq] at ho
          subst ho
          match i, hi with
          | 0, _ => show (_ : Bool) = true; kernel_rfl
          | 1, _ => show (_ : Bool) = true; kernel_rfl
          | 2, _ => show (_ : Bool) = true; kernel_rfl
          | 3, _ => show (_ : Bool) = true; kernel_rfl
          | 4, _ => show (_ : Bool) = true; kernel_rfl
          | 5, _ => show (_ : Bool) = true; kernel_rfl
          | 6, _ => show (_ : Bool) = true; kernel_rfl
          | 7, _ => show (_ : Bool) = true; kernel_rfl
        case hF1 =>
          intro i v w' w'' h hb
          match i, h with
          | 0, h => exact h
          | 1, h => exact h
          | 2, h => exact h
          | 3, h => exact h
          | 4, h => exact h
          | 5, h => exact h
          | 6, h => obtain ⟨a', c', e, o⟩ := h; exact ⟨a', c', e, o.old hb⟩
          | n + 7, h => exact h
        case hstep1 =>
          intro vs w' i o hin ho hb hd
          match i, ho, hin with
          | 0, ho, _ =>
            simp only [List.getElem?_cons_zero, Option.some.injEq] at ho
            subst ho
            refine ⟨wanted_none rfl, ?_⟩
            generalize hK : (fun (a' : Act) (w'' : World) => ∃ v : Value, _ ∧ _ ∧ _) = K
            go_simp
            rw [← hK]
            exact ⟨_, rfl, rfl, Below.refl _ _⟩
          | 1, ho, _ =>
            simp only [List.getElem?_cons_succ, List.getElem?_cons_zero, Option.some.injEq] at ho
            subst ho
            refine ⟨wanted_none rfl, ?_⟩
            have e0 : vs 0 = .pointer (some ⟨w1.heap.size, 0, none⟩) := hd 0 (by kernel_rfl)
            have q := (hb.cell (p := ⟨w1.heap.size, 0, none⟩) LV.out).trans V0.out
            generalize hK : (fun (a' : Act) (w'' : World) => ∃ v : Value, _ ∧ _ ∧ _) = K
            go_simp
            rw [← hK]
            exact ⟨_, by simp [upd, e0], rfl, Below.refl _ _⟩
          | 2, ho, _ =>
            simp only [List.getElem?_cons_succ, List.getElem?_cons_zero, Option.some.injEq] at ho
            subst ho
            refine ⟨wanted_none rfl, ?_⟩
            have c0 := (HXG.out.old hb).c0
            have c1 := (HXG.out.old hb).c1
            have c2 := (HXG.out.old hb).c2
            have c3 := (HXG.out.old hb).c3
            generalize hK : (fun (a' : Act) (w'' : World) => ∃ v : Value, _ ∧ _ ∧ _) = K
            go_simp
            rw [← hK]
            exact ⟨_, rfl, rfl, Below.refl _ _⟩
          | 3, ho, _ =>
            simp only [List.getElem?_cons_succ, List.getElem?_cons_zero, Option.some.injEq] at ho
            subst ho
            refine ⟨wanted_none rfl, ?_⟩
            have c0 := (HXD.out.old hb).c0
            have c1 := (HXD.out.old hb).c1
            have c2 := (HXD.out.old hb).c2
            generalize hK : (fun (a' : Act) (w'' : World) => ∃ v : Value, _ ∧ _ ∧ _) = K
            go_simp
            rw [← hK]
            exact ⟨_, rfl, rfl, Below.refl _ _⟩
          | 4, ho, _ =>
            simp only [List.getElem?_cons_succ, List.getElem?_cons_zero, Option.some.injEq] at ho
            subst ho
            refine ⟨wanted_none rfl, ?_⟩
            have e2 : Hid (vs 2 = .agg #[.int .i64 G.a, .int .i64 G.b, .int .i64 G.r, .int .i64 G.c]) := hd 2 (by kernel_rfl)
            have e3 : Hid (vs 3 = .agg #[.int .i64 D.b, .int .i64 D.r, .int .i64 D.c]) := hd 3 (by kernel_rfl)
            generalize hK : (fun (a' : Act) (w'' : World) => ∃ v : Value, _ ∧ _ ∧ _) = K
            go_simp
            refine (calls_args (by rw [e2.out, e3.out]) (implAddrIndex_any G D _)).mono ?_
            rintro e w2 ⟨rfl, B⟩
            rw [← hK]
            exact ⟨_, rfl, congrArg (Value.int .i64) HI.out, B⟩
          | 5, ho, _ =>
            simp only [List.getElem?_cons_succ, List.getElem?_cons_zero, Option.some.injEq] at ho
            subst ho
            refine ⟨wanted_none rfl, ?_⟩
            have c0 := (HXE.out.old hb).c0
            have c1 := (HXE.out.old hb).c1
            generalize hK : (fun (a' : Act) (w'' : World) => ∃ v : Value, _ ∧ _ ∧ _) = K
            go_simp
            rw [← hK]
            exact ⟨_, rfl, rfl, Below.refl _ _⟩
          | 6, ho, _ =>
            simp only [List.getElem?_cons_succ, List.getElem?_cons_zero, Option.some.injEq] at ho
            subst ho
            refine ⟨wanted_none rfl, ?_⟩
            have e5 : Hid (vs 5 = .agg #[.slice E.a E.n E.c, .bool E.p]) := hd 5 (by kernel_rfl)
            generalize hK : (fun (a' : Act) (w'' : World) => ∃ v : Value, _ ∧ _ ∧ _) = K
            go_simp
            refine (calls_args (by rw [e5.out]) (implCopyCell_any _ _ _ E.xs E.p _ ((HE.out.old HB.out).old hb) HEN.out hEl)).mono ?_
            rintro e w2 ⟨a', c', rfl, O, B⟩
            rw [← hK]
            exact ⟨_, rfl, ⟨a', c', rfl, O.mono hb.size⟩, B⟩
          | 7, ho, _ =>
            simp only [List.getElem?_cons_succ, List.getElem?_cons_zero, Option.some.injEq] at ho
            subst ho
            refine ⟨wanted_none rfl, ?_⟩
            have e1 : vs 1 = .slice (some ⟨g0, 0, none⟩) X.s0.n X.s0.c := hd 1 (by kernel_rfl)
            have e4 : vs 4 = .int .i64 (ci : Int) := hd 4 (by kernel_rfl)
            generalize hK : (fun (a' : Act) (w'' : World) => ∃ v : Value, _ ∧ _ ∧ _) = K
            go_simp
            rw [← hK]
            exact ⟨_, by simp [upd, e1, e4], rfl, Below.refl _ _⟩
          | n + 8, _, hin => exact absurd hin (by omega)
        case hend1 =>
          intro vs w5 o ho hb hf
          simp only [List.getElem?_cons_succ, List.getElem?_cons_zero, Option.some.injEq] at ho
          subst ho
          refine ⟨wanted_none rfl, ?_⟩
          obtain ⟨ya, yc, er, HY⟩ := hf 6 (by decide)
          have ep : vs 7 = .pointer (some ⟨g0, ci * 2, none⟩) := hf 7 (by decide)
          generalize vs 6 = ur at er ⊢
          subst er
          generalize vs 7 = up at ep ⊢
          subst ep
          generalize hw : (w5.setCell ⟨g0, ci * 2, none⟩ (.slice ya E.n yc)).setCell ⟨g0, ci * 2 + 1, none⟩ (.bool E.p) = w6
          obtain ⟨hO, K, hB1, hU1, hc0, hc1, hf0, hf1⟩ := HOX.out.storeC (y := ⟨ya, E.n, yc, E.xs, E.p⟩) HG0.out HE0.out hb HY hw.symm
          have HHB := hid hb
          clear hf hb
          have HXG := hid (HXG.out.old HHB.out)
          have HXA := hid (HXA.out.old HHB.out)
          have HXD := hid (HXD.out.old HHB.out)
          have HXE := hid (HXE.out.old HHB.out)
          have HOX := hid (HOX.out.old HHB.out)
          have HXV := hid (HXV.out.old HHB.out)
          have HXR := hid ((HHB.out.block _ (lt_of_heap HXR.out)).trans HXR.out)
          have HB := hid (below_step HB.out HHB.out (Nat.le_refl _))
          go_simp
          clear hw hc0 hc1 hf0 hf1
          have hgr : g0 ≠ w.heap.size + 1 + 1 + 1 + 1 := by have := HB0.out; omega
          have HXR := hid ((K.block _ (lt_of_heap HXR.out) (fun he => hgr he.symm)).trans HXR.out)
          have HXV := hid (HXV.out.keeps K (fun hq => HNE.out hq.symm))
          have HOX := hid hO
          have HB := hid (HB.out.trans (K.below (by have := HB.out.size; omega) (fun q hq hS => by have := HB0.out; omega)))
          clear K hO
          have v0 := HXV.out.c0
          have v1 := HXV.out.c1
          have v2 := HXV.out.c2
          have r0 := cell_of_row w6 (w.heap.size + 1 + 1 + 1 + 1) 0 _ 41 (0, 0) HXR.out
          have r1 := cell_of_row w6 (w.heap.size + 1 + 1 + 1 + 1) 1 _ 41 (0, 0) HXR.out
          have r2 := cell_of_row w6 (w.heap.size + 1 + 1 + 1 + 1) 2 _ 41 (0, 0) HXR.out
          have fr := fun j => frozen_of_row w6 (w.heap.size + 1 + 1 + 1 + 1) j _ 41 HXR.out
          simp only [List.getElem?_toArray, List.getElem?_cons_zero, List.getElem?_cons_succ] at r0 r1 r2
          have K : Keeps (fun b => b = w.heap.size + 1 + 1 + 1 + 1) w6 (((w6.setCell ⟨w.heap.size + 1 + 1 + 1 + 1, 0, none⟩ (.slice X.s0.a X.s0.n X.s0.c)).setCell ⟨w.heap.size + 1 + 1 + 1 + 1, 1, none⟩ (.slice X.s1.a X.s1.n X.s1.c)).setCell ⟨w.heap.size + 1 + 1 + 1 + 1, 2, none⟩ (.slice X.s2.a X.s2.n X.s2.c)) :=
            (((Keeps.refl (fun b => b = w.heap.size + 1 + 1 + 1 + 1) w6).set ⟨w.heap.size + 1 + 1 + 1 + 1, 0, none⟩ _ rfl).set ⟨w.heap.size + 1 + 1 + 1 + 1, 1, none⟩ _ rfl).set ⟨w.heap.size + 1 + 1 + 1 + 1, 2, none⟩ _ rfl
          have HK := hid K
          clear K
          go_wp2_with fail
          refine bodyPost_ret (v := .agg #[.slice X.s0.a X.s0.n X.s0.c, .slice X.s1.a X.s1.n X.s1.c, .slice X.s2.a X.s2.n X.s2.c]) (by simp [results, Try.results50, go_sem, r0, r1, r2]) rfl ⟨⟨X.s0, X.s1, X.s2, X.es.set ci ⟨ya, E.n, yc, E.xs, E.p⟩, X.age, X.hits⟩, rfl, ?_, (hT.out _ _).symm, ?_⟩
          · exact ((HOX.out.keeps HK.out (fun b hb hS => by have := hb.1; omega)).up (Nat.le_trans HOX.out.cells.row.le HK.out.size) (Nat.le_refl _)).mono (by omega)
          · exact HB.out.trans (HK.out.below (by have := HB.out.size; omega) (fun q hq hS => by omega))

set_option maxRecDepth 100000 in
theorem specStoreCell_any (G : Geo) (A : ArrE) (D : Adr) (E : CellE) (w : World) (hA : ArrR w A) (hs : A.d.small) (hE : IntsR w E.a E.xs) (hEn : E.n = E.xs.length) (hEl : E.xs.length ≤ 1048576) :
    Calls Try.prog 48 #[.agg #[.int .i64 G.a, .int .i64 G.b, .int .i64 G.r, .int .i64 G.c], .agg #[.slice A.s0.a A.s0.n A.s0.c, .slice A.s1.a A.s1.n A.s1.c, .slice A.s2.a A.s2.n A.s2.c], .agg #[.int .i64 D.b, .int .i64 D.r, .int .i64 D.c], .agg #[.slice E.a E.n E.c, .bool E.p]] w fun e w' => ∃ A' : ArrE, e = .returned (.agg #[.slice A'.s0.a A'.s0.n A'.s0.c, .slice A'.s1.a A'.s1.n A'.s1.c, .slice A'.s2.a A'.s2.n A'.s2.c]) ∧ OwnA w' w.heap.size w'.heap.size A' ∧ A'.d = storeR G D E.d A.d ∧ Below w.heap.size w w' := by
  have HA := hid hA
  have HS := hid hs
  clear hA hs
  have HE := hid hE
  have HEN := hid hEn
  clear hE hEn
  go_enter Try.func48, Try.ntmps48
  go_wp2_with fail
  refine (specCopyArray_any A _ (HA.out.old (below_alloc5 _ _ _ _ _ _)) HS.out).mono ?_
  rintro e w1 ⟨X, rfl, OX, DX, B1⟩
  have HXG := hid ((((((BoxG.new_ w 37 G (show _ = w.heap.size by simp)).old (below_alloc _ _)).old (below_alloc _ _)).old (below_alloc _ _)).old (below_alloc _ _)).old B1)
  have HXA := hid (((((BoxR.new_ (w.alloc _) 41 A (show _ = w.heap.size + 1 by simp)).old (below_alloc _ _)).old (below_alloc _ _)).old (below_alloc _ _)).old B1)
  have HXD := hid ((((BoxA.new_ ((w.alloc _).alloc _) 64 D (show _ = w.heap.size + 1 + 1 by simp)).old (below_alloc _ _)).old (below_alloc _ _)).old B1)
  have HXE := hid (((BoxE.new_ (((w.alloc _).alloc _).alloc _) 61 E (show _ = w.heap.size + 1 + 1 + 1 by simp)).old (below_alloc _ _)).old B1)
  have XR : w1.heap[w.heap.size + 1 + 1 + 1 + 1]? = some (.cells #[.slice none 0 0, .slice none 0 0, .slice none 0 0] 41 (0, 0)) := by
    rw [B1.block _ (by simp)]
    have := heap_alloc_new ((((w.alloc (.cells #[.int .i64 G.a, .int .i64 G.b, .int .i64 G.r, .int .i64 G.c] 37)).alloc (.cells #[.slice A.s0.a A.s0.n A.s0.c, .slice A.s1.a A.s1.n A.s1.c, .slice A.s2.a A.s2.n A.s2.c] 41)).alloc (.cells #[.int .i64 D.b, .int .i64 D.r, .int .i64 D.c] 64)).alloc (.cells #[.slice E.a E.n E.c, .bool E.p] 61)) (.cells #[.slice none 0 0, .slice none 0 0, .slice none 0 0] 41)
    simpa using this
  have HB := hid (below_step (below_alloc5 _ _ _ _ _ _) B1 (Nat.le_refl _))
  have hsz1 := B1.size
  simp only [World.size_alloc] at hsz1
  have hoX := OX.mono (B' := w.heap.size + 1 + 1 + 1 + 1 + 1) (by simp)
  have HOX := hid hoX
  have HDX := hid DX
  have HXR := hid XR
  clear OX hoX DX XR B1
  have oG0 := HXG.out.c0
  have oG1 := HXG.out.c1
  have oG2 := HXG.out.c2
  have oG3 := HXG.out.c3
  have olG := HXG.out.lt
  have oA0 := HXA.out.c0
  have oA1 := HXA.out.c1
  have oA2 := HXA.out.c2
  have olA := HXA.out.lt
  have hwa : Below w1.heap.size w1 (w1.alloc (.cells #[.slice X.s0.a X.s0.n X.s0.c, .slice X.s1.a X.s1.n X.s1.c, .slice X.s2.a X.s2.n X.s2.c] 41)) := below_alloc _ _
  have HWA := hid hwa
  clear hwa
  have HXV := hid (BoxV.new w1 X)
  go_wp2_with fail
  clear oG0 oG1 oG2 oG3 olG oA0 oA1 oA2 olA
  have HXG := hid (HXG.out.old HWA.out)
  have HXA := hid (HXA.out.old HWA.out)
  have HXD := hid (HXD.out.old HWA.out)
  have HXE := hid (HXE.out.old HWA.out)
  have HOX := hid (HOX.out.old HWA.out)
  have HXR := hid ((HWA.out.block _ (lt_of_heap HXR.out)).trans HXR.out)
  have HB := hid (below_step HB.out HWA.out (Nat.le_refl _))
  refine (specArrayOk_any G A _ (HA.out.old HB.out) HS.out).mono ?_
  rintro e w2 ⟨rfl, B⟩
  have HXG := hid (HXG.out.old B)
  have HXA := hid (HXA.out.old B)
  have HXD := hid (HXD.out.old B)
  have HXE := hid (HXE.out.old B)
  have HOX := hid (HOX.out.old B)
  have HXV := hid (HXV.out.old B)
  have HXR := hid ((B.block _ (lt_of_heap HXR.out)).trans HXR.out)
  have HB := hid (below_step HB.out B (Nat.le_refl _))
  clear B
  cases k1 : arrOk G A.d with
  | false =>
    have hT := hid (show storeR G D E.d A.d = A.d by unfold storeR; rw [k1]; simp)
    have v0 := HXV.out.c0
    have v1 := HXV.out.c1
    have v2 := HXV.out.c2
    have r0 := cell_of_row w2 (w.heap.size + 1 + 1 + 1 + 1) 0 _ 41 (0, 0) HXR.out
    have r1 := cell_of_row w2 (w.heap.size + 1 + 1 + 1 + 1) 1 _ 41 (0, 0) HXR.out
    have r2 := cell_of_row w2 (w.heap.size + 1 + 1 + 1 + 1) 2 _ 41 (0, 0) HXR.out
    have fr := fun j => frozen_of_row w2 (w.heap.size + 1 + 1 + 1 + 1) j _ 41 HXR.out
    simp only [List.getElem?_toArray, List.getElem?_cons_zero, List.getElem?_cons_succ] at r0 r1 r2
    have K : Keeps (fun b => b = w.heap.size + 1 + 1 + 1 + 1) w2 (((w2.setCell ⟨w.heap.size + 1 + 1 + 1 + 1, 0, none⟩ (.slice X.s0.a X.s0.n X.s0.c)).setCell ⟨w.heap.size + 1 + 1 + 1 + 1, 1, none⟩ (.slice X.s1.a X.s1.n X.s1.c)).setCell ⟨w.heap.size + 1 + 1 + 1 + 1, 2, none⟩ (.slice X.s2.a X.s2.n X.s2.c)) :=
      (((Keeps.refl (fun b => b = w.heap.size + 1 + 1 + 1 + 1) w2).set ⟨w.heap.size + 1 + 1 + 1 + 1, 0, none⟩ _ rfl).set ⟨w.heap.size + 1 + 1 + 1 + 1, 1, none⟩ _ rfl).set ⟨w.heap.size + 1 + 1 + 1 + 1, 2, none⟩ _ rfl
    have HK := hid K
    clear K
    go_wp2_with fail
    refine bodyPost_ret (v := .agg #[.slice X.s0.a X.s0.n X.s0.c, .slice X.s1.a X.s1.n X.s1.c, .slice X.s2.a X.s2.n X.s2.c]) (by simp [results, Try.results48, go_sem, r0, r1, r2]) rfl ⟨X, rfl, ?_, by rw [HDX.out, hT.out], ?_⟩
    · exact ((HOX.out.keeps HK.out (fun b hb hS => by have := hb.1; omega)).up (Nat.le_trans HOX.out.cells.row.le HK.out.size) (Nat.le_refl _)).mono (by omega)
    · exact HB.out.trans (HK.out.below (by have := HB.out.size; omega) (fun q hq hS => by omega))
  | true =>
    have oG0 := HXG.out.c0
    have oG1 := HXG.out.c1
    have oG2 := HXG.out.c2
    have oG3 := HXG.out.c3
    have olG := HXG.out.lt
    have oD0 := HXD.out.c0
    have oD1 := HXD.out.c1
    have oD2 := HXD.out.c2
    have olD := HXD.out.lt
    go_wp2_with fail
    clear oG0 oG1 oG2 oG3 olG oD0 oD1 oD2 olD
    refine (specAddrOk_any G D _).mono ?_
    rintro e w3 ⟨rfl, B⟩
    have HXG := hid (HXG.out.old B)
    have HXA := hid (HXA.out.old B)
    have HXD := hid (HXD.out.old B)
    have HXE := hid (HXE.out.old B)
    have HOX := hid (HOX.out.old B)
    have HXV := hid (HXV.out.old B)
    have HXR := hid ((B.block _ (lt_of_heap HXR.out)).trans HXR.out)
    have HB := hid (below_step HB.out B (Nat.le_refl _))
    clear B
    cases k2 : adrOk G D with
    | false =>
      have hT := hid (show storeR G D E.d A.d = A.d by unfold storeR; rw [k1, k2]; simp)
      have v0 := HXV.out.c0
      have v1 := HXV.out.c1
      have v2 := HXV.out.c2
      have r0 := cell_of_row w3 (w.heap.size + 1 + 1 + 1 + 1) 0 _ 41 (0, 0) HXR.out
      have r1 := cell_of_row w3 (w.heap.size + 1 + 1 + 1 + 1) 1 _ 41 (0, 0) HXR.out
      have r2 := cell_of_row w3 (w.heap.size + 1 + 1 + 1 + 1) 2 _ 41 (0, 0) HXR.out
      have fr := fun j => frozen_of_row w3 (w.heap.size + 1 + 1 + 1 + 1) j _ 41 HXR.out
      simp only [List.getElem?_toArray, List.getElem?_cons_zero, List.getElem?_cons_succ] at r0 r1 r2
      have K : Keeps (fun b => b = w.heap.size + 1 + 1 + 1 + 1) w3 (((w3.setCell ⟨w.heap.size + 1 + 1 + 1 + 1, 0, none⟩ (.slice X.s0.a X.s0.n X.s0.c)).setCell ⟨w.heap.size + 1 + 1 + 1 + 1, 1, none⟩ (.slice X.s1.a X.s1.n X.s1.c)).setCell ⟨w.heap.size + 1 + 1 + 1 + 1, 2, none⟩ (.slice X.s2.a X.s2.n X.s2.c)) :=
        (((Keeps.refl (fun b => b = w.heap.size + 1 + 1 + 1 + 1) w3).set ⟨w.heap.size + 1 + 1 + 1 + 1, 0, none⟩ _ rfl).set ⟨w.heap.size + 1 + 1 + 1 + 1, 1, none⟩ _ rfl).set ⟨w.heap.size + 1 + 1 + 1 + 1, 2, none⟩ _ rfl
      have HK := hid K
      clear K
      go_wp2_with fail
      refine bodyPost_ret (v := .agg #[.slice X.s0.a X.s0.n X.s0.c, .slice X.s1.a X.s1.n X.s1.c, .slice X.s2.a X.s2.n X.s2.c]) (by simp [results, Try.results48, go_sem, r0, r1, r2]) rfl ⟨X, rfl, ?_, by rw [HDX.out, hT.out], ?_⟩
      · exact ((HOX.out.keeps HK.out (fun b hb hS => by have := hb.1; omega)).up (Nat.le_trans HOX.out.cells.row.le HK.out.size) (Nat.le_refl _)).mono (by omega)
      · exact HB.out.trans (HK.out.below (by have := HB.out.size; omega) (fun q hq hS => by omega))
    | true =>
      have oE0 := HXE.out.c0
      have oE1 := HXE.out.c1
      have olE := HXE.out.lt
      go_wp2_with fail
      clear oE0 oE1 olE
      refine (specSymbolsOk_any _ _ _ 11 E.xs _ (HE.out.old HB.out) HEN.out hEl).mono ?_
      rintro e w4 ⟨rfl, q, hq⟩
      have B : Below w3.heap.size w3 w4 := by rw [hq]; exact below_ofDrewN _ _ _
      have HXG := hid (HXG.out.old B)
      have HXA := hid (HXA.out.old B)
      have HXD := hid (HXD.out.old B)
      have HXE := hid (HXE.out.old B)
      have HOX := hid (HOX.out.old B)
      have HXV := hid (HXV.out.old B)
      have HXR := hid ((B.block _ (lt_of_heap HXR.out)).trans HXR.out)
      have HB := hid (below_step HB.out B (Nat.le_refl _))
      clear B hq
      cases k3 : symOk E.xs 11 with
      | false =>
        have hT := hid (show storeR G D E.d A.d = A.d by unfold storeR; rw [k1, k2, show symOk E.d.1 11 = false from k3]; simp)
        have v0 := HXV.out.c0
        have v1 := HXV.out.c1
        have v2 := HXV.out.c2
        have r0 := cell_of_row w4 (w.heap.size + 1 + 1 + 1 + 1) 0 _ 41 (0, 0) HXR.out
        have r1 := cell_of_row w4 (w.heap.size + 1 + 1 + 1 + 1) 1 _ 41 (0, 0) HXR.out
        have r2 := cell_of_row w4 (w.heap.size + 1 + 1 + 1 + 1) 2 _ 41 (0, 0) HXR.out
        have fr := fun j => frozen_of_row w4 (w.heap.size + 1 + 1 + 1 + 1) j _ 41 HXR.out
        simp only [List.getElem?_toArray, List.getElem?_cons_zero, List.getElem?_cons_succ] at r0 r1 r2
        have K : Keeps (fun b => b = w.heap.size + 1 + 1 + 1 + 1) w4 (((w4.setCell ⟨w.heap.size + 1 + 1 + 1 + 1, 0, none⟩ (.slice X.s0.a X.s0.n X.s0.c)).setCell ⟨w.heap.size + 1 + 1 + 1 + 1, 1, none⟩ (.slice X.s1.a X.s1.n X.s1.c)).setCell ⟨w.heap.size + 1 + 1 + 1 + 1, 2, none⟩ (.slice X.s2.a X.s2.n X.s2.c)) :=
          (((Keeps.refl (fun b => b = w.heap.size + 1 + 1 + 1 + 1) w4).set ⟨w.heap.size + 1 + 1 + 1 + 1, 0, none⟩ _ rfl).set ⟨w.heap.size + 1 + 1 + 1 + 1, 1, none⟩ _ rfl).set ⟨w.heap.size + 1 + 1 + 1 + 1, 2, none⟩ _ rfl
        have HK := hid K
        clear K
        go_wp2_with fail
        refine bodyPost_ret (v := .agg #[.slice X.s0.a X.s0.n X.s0.c, .slice X.s1.a X.s1.n X.s1.c, .slice X.s2.a X.s2.n X.s2.c]) (by simp [results, Try.results48, go_sem, r0, r1, r2]) rfl ⟨X, rfl, ?_, by rw [HDX.out, hT.out], ?_⟩
        · exact ((HOX.out.keeps HK.out (fun b hb hS => by have := hb.1; omega)).up (Nat.le_trans HOX.out.cells.row.le HK.out.size) (Nat.le_refl _)).mono (by omega)
        · exact HB.out.trans (HK.out.below (by have := HB.out.size; omega) (fun q hq hS => by omega))
      | true =>
        obtain ⟨ci, e, hi, he, hen, hxs⟩ := cell_idx (X := X) (D := D) k1 k2 HDX.out
        have hT0 := fun (ya : Option Addr) (yc : Nat) => storeR_yes (ya := ya) (yc := yc) (E := E) (X := X) k1 k2 k3 HDX.out hi
        have hT := hid hT0
        clear hT0
        have HI := hid hi
        have HE0 := hid he
        obtain ⟨g0, hg0, hB0, hU0, hc0⟩ := HOX.out.cells.row.at_ encC_len he (show (encC e)[0]? = some (.slice e.a e.n e.c) from rfl)
        have hin : ci < X.s0.n := by have h1 := HOX.out.cells.len; have h2 := (List.getElem?_eq_some_iff.1 he).1; omega
        have hi0 : (0 : Int) ≤ (ci : Int) := by omega
        have hin' : (ci : Int) < (X.s0.n : Int) := by omega
        have v0 := HXV.out.c0
        rw [hg0] at v0
        have V0 := hid v0
        have LV := hid HXV.out.lt
        have HG0 := hid hg0
        have hne1 : g0 ≠ w1.heap.size := fun hq => row_not HOX.out.cells.row HXV.out.hh (by decide) (by rw [hg0, hq]; rfl)
        have HNE := hid hne1
        have HB0 := hid hB0
        clear hne1 hc0 v0 k1 k2 k3 hi he hen hxs hg0 hB0 hU0
        go_wp2_with fail
        refine grow_of 8 (fr := ?fr1)
          (fun i v w' => match i with
              | 0 => v = .pointer (some ⟨w1.heap.size, 0, none⟩)
              | 1 => v = .slice (some ⟨g0, 0, none⟩) X.s0.n X.s0.c
              | 2 => v = .agg #[.int .i64 G.a, .int .i64 G.b, .int .i64 G.r, .int .i64 G.c]
              | 3 => v = .agg #[.int .i64 D.b, .int .i64 D.r, .int .i64 D.c]
              | 4 => v = .int .i64 (ci : Int)
              | 5 => v = .agg #[.slice E.a E.n E.c, .bool E.p]
              | 6 => ∃ (a' : Option Addr) (c' : Nat), v = .agg #[.slice a' E.n c', .bool E.p] ∧ OwnS w' w4.heap.size a' E.n c' E.xs
              | _ => v = .pointer (some ⟨g0, ci * 2, none⟩)) (by kernel_rfl) (by kernel_rfl) rfl ?hlast1 ?hfr1 ⟨fun _ => undef, ?h01⟩ ?hF1 ?hstep1 ?hend1
        case hfr1 => intro vs; simp only [frOf, List.take_succ_cons, List.take_zero]; go_simp; exact rfl
        case h01 => rfl
        case hlast1 =>
          intro o ho i hi
          simp only [List.getElem?_cons_succ, List.getElem?_cons_zero, Option.some.injEq] at ho
          subst ho
          match i, hi with
          | 0, _ => show (_ : Bool) = true; kernel_rfl
          | 1, _ => show (_ : Bool) = true; kernel_rfl
          | 2, _ => show (_ : Bool) = true; kernel_rfl
          | 3, _ => show (_ : Bool) = true; kernel_rfl
          | 4, _ => show (_ : Bool) = true; kernel_rfl
          | 5, _ => show (_ : Bool) = true; kernel_rfl
          | 6, _ => show (_ : Bool) = true; kernel_rfl
          | 7, _ => show (_ : Bool) = true; kernel_rfl
        case hF1 =>
          intro i v w' w'' h hb
          match i, h with
          | 0, h => exact h
          | 1, h => exact h
          | 2, h => exact h
          | 3, h => exact h
          | 4, h => exact h
          | 5, h => exact h
          | 6, h => obtain ⟨a', c', e, o⟩ := h; exact ⟨a', c', e, o.old hb⟩
          | n + 7, h => exact h
        case hstep1 =>
          intro vs w' i o hin ho hb hd
          match i, ho, hin with
          | 0, ho, _ =>
            simp only [List.getElem?_cons_zero, Option.some.injEq] at ho
            subst ho
            refine ⟨wanted_none rfl, ?_⟩
            generalize hK : (fun (a' : Act) (w'' : World) => ∃ v : Value, _ ∧ _ ∧ _) = K
            go_simp
            rw [← hK]
            exact ⟨_, rfl, rfl, Below.refl _ _⟩
          | 1, ho, _ =>
            simp only [List.getElem?_cons_succ, List.getElem?_cons_zero, Option.some.injEq] at ho
            subst ho
            refine ⟨wanted_none rfl, ?_⟩
            have e0 : vs 0 = .pointer (some ⟨w1.heap.size, 0, none⟩) := hd 0 (by kernel_rfl)
            have q := (hb.cell (p := ⟨w1.heap.size, 0, none⟩) LV.out).trans V0.out
            generalize hK : (fun (a' : Act) (w'' : World) => ∃ v : Value, _ ∧ _ ∧ _) = K
            go_simp
            rw [← hK]
            exact ⟨_, by simp [upd, e0], rfl, Below.refl _ _⟩
          | 2, ho, _ =>
            simp only [List.getElem?_cons_succ, List.getElem?_cons_zero, Option.some.injEq] at ho
            subst ho
            refine ⟨wanted_none rfl, ?_⟩
            have c0 := (HXG.out.old hb).c0
            have c1 := (HXG.out.old hb).c1
            have c2 := (HXG.out.old hb).c2
            have c3 := (HXG.out.old hb).c3
            generalize hK : (fun (a' : Act) (w'' : World) => ∃ v : Value, _ ∧ _ ∧ _) = K
            go_simp
            rw [← hK]
            exact ⟨_, rfl, rfl, Below.refl _ _⟩
          | 3, ho, _ =>
            simp only [List.getElem?_cons_succ, List.getElem?_cons_zero, Option.some.injEq] at ho
            subst ho
            refine ⟨wanted_none rfl, ?_⟩
            have c0 := (HXD.out.old hb).c0
            have c1 := (HXD.out.old hb).c1
            have c2 := (HXD.out.old hb).c2
            generalize hK : (fun (a' : Act) (w'' : World) => ∃ v : Value, _ ∧ _ ∧ _) = K
            go_simp
            rw [← hK]
            exact ⟨_, rfl, rfl, Below.refl _ _⟩
          | 4, ho, _ =>
            simp only [List.getElem?_cons_succ, List.getElem?_cons_zero, Option.some.injEq] at ho
            subst ho
            refine ⟨wanted_none rfl, ?_⟩
            have e2 : Hid (vs 2 = .agg #[.int .i64 G.a, .int .i64 G.b, .int .i64 G.r, .int .i64 G.c]) := hd 2 (by kernel_rfl)
            have e3 : Hid (vs 3 = .agg #[.int .i64 D.b, .int .i64 D.r, .int .i64 D.c]) := hd 3 (by kernel_rfl)
            generalize hK : (fun (a' : Act) (w'' : World) => ∃ v : Value, _ ∧ _ ∧ _) = K
            go_simp
            refine (calls_args (by rw [e2.out, e3.out]) (specAddrIndex_any G D _)).mono ?_
            rintro e w2 ⟨rfl, B⟩
            rw [← hK]
            exact ⟨_, rfl, congrArg (Value.int .i64) HI.out, B⟩
          | 5, ho, _ =>
            simp only [List.getElem?_cons_succ, List.getElem?_cons_zero, Option.some.injEq] at ho
            subst ho
            refine ⟨wanted_none rfl, ?_⟩
            have c0 := (HXE.out.old hb).c0
            have c1 := (HXE.out.old hb).c1
            generalize hK : (fun (a' : Act) (w'' : World) => ∃ v : Value, _ ∧ _ ∧ _) = K
            go_simp
            rw [← hK]
            exact ⟨_, rfl, rfl, Below.refl _ _⟩
          | 6, ho, _ =>
            simp only [List.getElem?_cons_succ, List.getElem?_cons_zero, Option.some.injEq] at ho
            subst ho
            refine ⟨wanted_none rfl, ?_⟩
            have e5 : Hid (vs 5 = .agg #[.slice E.a E.n E.c, .bool E.p]) := hd 5 (by kernel_rfl)
            generalize hK : (fun (a' : Act) (w'' : World) => ∃ v : Value, _ ∧ _ ∧ _) = K
            go_simp
            refine (calls_args (by rw [e5.out]) (specCopyCell_any _ _ _ E.xs E.p _ ((HE.out.old HB.out).old hb) HEN.out hEl)).mono ?_
            rintro e w2 ⟨a', c', rfl, O, B⟩
            rw [← hK]
            exact ⟨_, rfl, ⟨a', c', rfl, O.mono hb.size⟩, B⟩
          | 7, ho, _ =>
            simp only [List.getElem?_cons_succ, List.getElem?_cons_zero, Option.some.injEq] at ho
            subst ho
            refine ⟨wanted_none rfl, ?_⟩
            have e1 : vs 1 = .slice (some ⟨g0, 0, none⟩) X.s0.n X.s0.c := hd 1 (by kernel_rfl)
            have e4 : vs 4 = .int .i64 (ci : Int) := hd 4 (by kernel_rfl)
            generalize hK : (fun (a' : Act) (w'' : World) => ∃ v : Value, _ ∧ _ ∧ _) = K
            go_simp
            rw [← hK]
            exact ⟨_, by simp [upd, e1, e4], rfl, Below.refl _ _⟩
          | n + 8, _, hin => exact absurd hin (by omega)
        case hend1 =>
          intro vs w5 o ho hb hf
          simp only [List.getElem?_cons_succ, List.getElem?_cons_zero, Option.some.injEq] at ho
          subst ho
          refine ⟨wanted_none rfl, ?_⟩
          obtain ⟨ya, yc, er, HY⟩ := hf 6 (by decide)
          have ep : vs 7 = .pointer (some ⟨g0, ci * 2, none⟩) := hf 7 (by decide)
          generalize vs 6 = ur at er ⊢
          subst er
          generalize vs 7 = up at ep ⊢
          subst ep
          generalize hw : (w5.setCell ⟨g0, ci * 2, none⟩ (.slice ya E.n yc)).setCell ⟨g0, ci * 2 + 1, none⟩ (.bool E.p) = w6
          obtain ⟨hO, K, hB1, hU1, hc0, hc1, hf0, hf1⟩ := HOX.out.storeC (y := ⟨ya, E.n, yc, E.xs, E.p⟩) HG0.out HE0.out hb HY hw.symm
          have HHB := hid hb
          clear hf hb
          have HXG := hid (HXG.out.old HHB.out)
          have HXA := hid (HXA.out.old HHB.out)
          have HXD := hid (HXD.out.old HHB.out)
          have HXE := hid (HXE.out.old HHB.out)
          have HOX := hid (HOX.out.old HHB.out)
          have HXV := hid (HXV.out.old HHB.out)
          have HXR := hid ((HHB.out.block _ (lt_of_heap HXR.out)).trans HXR.out)
          have HB := hid (below_step HB.out HHB.out (Nat.le_refl _))
          go_simp
          clear hw hc0 hc1 hf0 hf1
          have hgr : g0 ≠ w.heap.size + 1 + 1 + 1 + 1 := by have := HB0.out; omega
          have HXR := hid ((K.block _ (lt_of_heap HXR.out) (fun he => hgr he.symm)).trans HXR.out)
          have HXV := hid (HXV.out.keeps K (fun hq => HNE.out hq.symm))
          have HOX := hid hO
          have HB := hid (HB.out.trans (K.below (by have := HB.out.size; omega) (fun q hq hS => by have := HB0.out; omega)))
          clear K hO
          have v0 := HXV.out.c0
          have v1 := HXV.out.c1
          have v2 := HXV.out.c2
          have r0 := cell_of_row w6 (w.heap.size + 1 + 1 + 1 + 1) 0 _ 41 (0, 0) HXR.out
          have r1 := cell_of_row w6 (w.heap.size + 1 + 1 + 1 + 1) 1 _ 41 (0, 0) HXR.out
          have r2 := cell_of_row w6 (w.heap.size + 1 + 1 + 1 + 1) 2 _ 41 (0, 0) HXR.out
          have fr := fun j => frozen_of_row w6 (w.heap.size + 1 + 1 + 1 + 1) j _ 41 HXR.out
          simp only [List.getElem?_toArray, List.getElem?_cons_zero, List.getElem?_cons_succ] at r0 r1 r2
          have K : Keeps (fun b => b = w.heap.size + 1 + 1 + 1 + 1) w6 (((w6.setCell ⟨w.heap.size + 1 + 1 + 1 + 1, 0, none⟩ (.slice X.s0.a X.s0.n X.s0.c)).setCell ⟨w.heap.size + 1 + 1 + 1 + 1, 1, none⟩ (.slice X.s1.a X.s1.n X.s1.c)).setCell ⟨w.heap.size + 1 + 1 + 1 + 1, 2, none⟩ (.slice X.s2.a X.s2.n X.s2.c)) :=
            (((Keeps.refl (fun b => b = w.heap.size + 1 + 1 + 1 + 1) w6).set ⟨w.heap.size + 1 + 1 + 1 + 1, 0, none⟩ _ rfl).set ⟨w.heap.size + 1 + 1 + 1 + 1, 1, none⟩ _ rfl).set ⟨w.heap.size + 1 + 1 + 1 + 1, 2, none⟩ _ rfl
          have HK := hid K
          clear K
          go_wp2_with fail
          refine bodyPost_ret (v := .agg #[.slice X.s0.a X.s0.n X.s0.c, .slice X.s1.a X.s1.n X.s1.c, .slice X.s2.a X.s2.n X.s2.c]) (by simp [results, Try.results48, go_sem, r0, r1, r2]) rfl ⟨⟨X.s0, X.s1, X.s2, X.es.set ci ⟨ya, E.n, yc, E.xs, E.p⟩, X.age, X.hits⟩, rfl, ?_, (hT.out _ _).symm, ?_⟩
          · exact ((HOX.out.keeps HK.out (fun b hb hS => by have := hb.1; omega)).up (Nat.le_trans HOX.out.cells.row.le HK.out.size) (Nat.le_refl _)).mono (by omega)
          · exact HB.out.trans (HK.out.below (by have := HB.out.size; omega) (fun q hq hS => by omega))
end Go.Proofs.Ytnfkkkjookfdiaa
