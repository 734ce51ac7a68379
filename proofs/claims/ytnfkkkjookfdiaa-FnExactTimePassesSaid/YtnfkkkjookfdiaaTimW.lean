/- TimePasses: what the program's and the reference's return. -/
import Derived.Test.YtnfkkkjookfdiaaRowW
import Derived.Test.YtnfkkkjookfdiaaCpaW
import Derived.StillTailTactics
namespace Go.Proofs.Ytnfkkkjookfdiaa
open Go.RowKit

def minI (x : Int) : Int := if 100000 < x then 100000 else x
def timeR (G : Geo) (D : ArrD) (n : Int) : ArrD := if arrOk G D && inB n 0 100000 then ⟨D.cells, D.age.map fun x => minI (x + n), D.hits⟩ else D
theorem OwnA.setAge {w w' : World} {B U : Nat} {X : ArrE} {age' : List Int} (h : OwnA w B U X) (hk : Keeps (blkS X.s1.a X.s1.n) w w') (hs : OwnS w' B X.s1.a X.s1.n X.s1.c age') : OwnA w' B U ⟨X.s0, X.s1, X.s2, X.es, age', X.hits⟩ :=
  ⟨h.cells.cells_keep hk (fun i e he b hb hS => h.a01 i e he b hb hS) (fun _ hS he => h.cells.not_sym h.age hS he), hs, h.hits.keeps hk (fun b hb hS => h.a12 b hS hb), h.t1, h.t2, h.a12, h.a01, h.a02⟩
theorem timeR_small {G : Geo} {D : ArrD} {n : Int} (h : D.small) : (timeR G D n).small := by
  unfold timeR
  split
  · exact ⟨h.cells, h.each, h.sum, by rw [List.length_map]; exact h.age, h.hits⟩
  · exact h
theorem ages_in {G : Geo} {D : ArrD} (h : arrOk G D = true) {k : Nat} {x : Int} (hx : D.age[k]? = some x) : 0 ≤ x ∧ x ≤ 100000 := by
  unfold arrOk agesOk at h
  simp only [Bool.and_eq_true, List.all_eq_true] at h
  exact inB_iff.1 (h.2.1 x (List.mem_of_getElem? hx))
set_option maxRecDepth 100000 in
theorem implTimePasses_any (G : Geo) (A : ArrE) (n : Int) (w : World) (hA : ArrR w A) (hs : A.d.small) :
    Calls Try.prog 44 #[.agg #[.int .i64 G.a, .int .i64 G.b, .int .i64 G.r, .int .i64 G.c], .agg #[.slice A.s0.a A.s0.n A.s0.c, .slice A.s1.a A.s1.n A.s1.c, .slice A.s2.a A.s2.n A.s2.c], .int .i64 n] w fun e w' => ∃ A' : ArrE, e = .returned (.agg #[.slice A'.s0.a A'.s0.n A'.s0.c, .slice A'.s1.a A'.s1.n A'.s1.c, .slice A'.s2.a A'.s2.n A'.s2.c]) ∧ OwnA w' w.heap.size w'.heap.size A' ∧ A'.d = timeR G A.d n ∧ Below w.heap.size w w' := by
  have HA := hid hA
  have HS := hid hs
  clear hA hs
  go_enter Try.func44, Try.ntmps44
  go_wp2_with fail
  refine (implCopyArray_any A _ (HA.out.old (below_alloc3 _ _ _ _)) HS.out).mono ?_
  rintro e w1 ⟨X, rfl, OX, DX, B1⟩
  have HXG := hid ((((BoxG.new_ w 37 G (show _ = w.heap.size by simp)).old (below_alloc _ _)).old (below_alloc _ _)).old B1)
  have HXA := hid (((BoxR.new_ (w.alloc _) 41 A (show _ = w.heap.size + 1 by simp)).old (below_alloc _ _)).old B1)
  have XR : w1.heap[w.heap.size + 1 + 1]? = some (.cells #[.slice none 0 0, .slice none 0 0, .slice none 0 0] 41 (0, 0)) := by
    rw [B1.block _ (by simp)]
    have := heap_alloc_new ((w.alloc (.cells #[.int .i64 G.a, .int .i64 G.b, .int .i64 G.r, .int .i64 G.c] 37)).alloc (.cells #[.slice A.s0.a A.s0.n A.s0.c, .slice A.s1.a A.s1.n A.s1.c, .slice A.s2.a A.s2.n A.s2.c] 41)) (.cells #[.slice none 0 0, .slice none 0 0, .slice none 0 0] 41)
    simpa using this
  have HB := hid (below_step (below_alloc3 _ _ _ _) B1 (Nat.le_refl _))
  have hsz1 := B1.size
  simp only [World.size_alloc] at hsz1
  have hoX := OX.mono (B' := w.heap.size + 1 + 1 + 1) (by simp)
  have HOX := hid hoX
  have HDX := hid DX
  have HXR := hid XR
  clear OX hoX DX XR B1
  have oG0 := HXG.out.c0
  have oG1 := HXG.out.c1
  have oG2 := HXG.out.c2
  have oG3 := HXG.out.c3
  have olG := HXG.out.lt
  have oA0 := HXA.out.c0
  have oA1 := HXA.out.c1
  have oA2 := HXA.out.c2
  have olA := HXA.out.lt
  have hwa : Below w1.heap.size w1 (w1.alloc (.cells #[.slice X.s0.a X.s0.n X.s0.c, .slice X.s1.a X.s1.n X.s1.c, .slice X.s2.a X.s2.n X.s2.c] 41)) := below_alloc _ _
  have HWA := hid hwa
  clear hwa
  have HXV := hid (BoxV.new w1 X)
  go_wp2_with fail
  clear oG0 oG1 oG2 oG3 olG oA0 oA1 oA2 olA
  have HXG := hid (HXG.out.old HWA.out)
  have HXA := hid (HXA.out.old HWA.out)
  have HOX := hid (HOX.out.old HWA.out)
  have HXR := hid ((HWA.out.block _ (lt_of_heap HXR.out)).trans HXR.out)
  have HB := hid (below_step HB.out HWA.out (Nat.le_refl _))
  refine (implArrayOk_any G A _ (HA.out.old HB.out) HS.out).mono ?_
  rintro e w2 ⟨rfl, B⟩
  have HXG := hid (HXG.out.old B)
  have HXA := hid (HXA.out.old B)
  have HOX := hid (HOX.out.old B)
  have HXV := hid (HXV.out.old B)
  have HXR := hid ((B.block _ (lt_of_heap HXR.out)).trans HXR.out)
  have HB := hid (below_step HB.out B (Nat.le_refl _))
  clear B
  cases k1 : arrOk G A.d with
  | false =>
    have hT := hid (show timeR G A.d n = A.d by unfold timeR; rw [k1]; rfl)
    have v0 := HXV.out.c0
    have v1 := HXV.out.c1
    have v2 := HXV.out.c2
    have r0 := cell_of_row w2 (w.heap.size + 1 + 1) 0 _ 41 (0, 0) HXR.out
    have r1 := cell_of_row w2 (w.heap.size + 1 + 1) 1 _ 41 (0, 0) HXR.out
    have r2 := cell_of_row w2 (w.heap.size + 1 + 1) 2 _ 41 (0, 0) HXR.out
    have fr := fun j => frozen_of_row w2 (w.heap.size + 1 + 1) j _ 41 HXR.out
    simp only [List.getElem?_toArray, List.getElem?_cons_zero, List.getElem?_cons_succ] at r0 r1 r2
    have K : Keeps (fun b => b = w.heap.size + 1 + 1) w2 (((w2.setCell ⟨w.heap.size + 1 + 1, 0, none⟩ (.slice X.s0.a X.s0.n X.s0.c)).setCell ⟨w.heap.size + 1 + 1, 1, none⟩ (.slice X.s1.a X.s1.n X.s1.c)).setCell ⟨w.heap.size + 1 + 1, 2, none⟩ (.slice X.s2.a X.s2.n X.s2.c)) :=
      (((Keeps.refl (fun b => b = w.heap.size + 1 + 1) w2).set ⟨w.heap.size + 1 + 1, 0, none⟩ _ rfl).set ⟨w.heap.size + 1 + 1, 1, none⟩ _ rfl).set ⟨w.heap.size + 1 + 1, 2, none⟩ _ rfl
    have HK := hid K
    clear K
    go_wp2_with fail
    refine bodyPost_ret (v := .agg #[.slice X.s0.a X.s0.n X.s0.c, .slice X.s1.a X.s1.n X.s1.c, .slice X.s2.a X.s2.n X.s2.c]) (by simp [results, Try.results44, go_sem, r0, r1, r2]) rfl ⟨X, rfl, ?_, by rw [HDX.out, hT.out], ?_⟩
    · exact ((HOX.out.keeps HK.out (fun b hb hS => by have := hb.1; omega)).up (Nat.le_trans HOX.out.cells.row.le HK.out.size) (Nat.le_refl _)).mono (by omega)
    · exact HB.out.trans (HK.out.below (by have := HB.out.size; omega) (fun q hq hS => by omega))
  | true =>
    cases k2 : inB n 0 100000 with
    | false =>
      have hT := hid (show timeR G A.d n = A.d by unfold timeR; rw [k1, k2]; rfl)
      go_wp2_with fail
      refine (between_of k2).mono ?_
      rintro e w3 ⟨rfl, rfl⟩
      have v0 := HXV.out.c0
      have v1 := HXV.out.c1
      have v2 := HXV.out.c2
      have r0 := cell_of_row w2 (w.heap.size + 1 + 1) 0 _ 41 (0, 0) HXR.out
      have r1 := cell_of_row w2 (w.heap.size + 1 + 1) 1 _ 41 (0, 0) HXR.out
      have r2 := cell_of_row w2 (w.heap.size + 1 + 1) 2 _ 41 (0, 0) HXR.out
      have fr := fun j => frozen_of_row w2 (w.heap.size + 1 + 1) j _ 41 HXR.out
      simp only [List.getElem?_toArray, List.getElem?_cons_zero, List.getElem?_cons_succ] at r0 r1 r2
      have K : Keeps (fun b => b = w.heap.size + 1 + 1) w2 (((w2.setCell ⟨w.heap.size + 1 + 1, 0, none⟩ (.slice X.s0.a X.s0.n X.s0.c)).setCell ⟨w.heap.size + 1 + 1, 1, none⟩ (.slice X.s1.a X.s1.n X.s1.c)).setCell ⟨w.heap.size + 1 + 1, 2, none⟩ (.slice X.s2.a X.s2.n X.s2.c)) :=
        (((Keeps.refl (fun b => b = w.heap.size + 1 + 1) w2).set ⟨w.heap.size + 1 + 1, 0, none⟩ _ rfl).set ⟨w.heap.size + 1 + 1, 1, none⟩ _ rfl).set ⟨w.heap.size + 1 + 1, 2, none⟩ _ rfl
      have HK := hid K
      clear K
      go_wp2_with fail
      refine bodyPost_ret (v := .agg #[.slice X.s0.a X.s0.n X.s0.c, .slice X.s1.a X.s1.n X.s1.c, .slice X.s2.a X.s2.n X.s2.c]) (by simp [results, Try.results44, go_sem, r0, r1, r2]) rfl ⟨X, rfl, ?_, by rw [HDX.out, hT.out], ?_⟩
      · exact ((HOX.out.keeps HK.out (fun b hb hS => by have := hb.1; omega)).up (Nat.le_trans HOX.out.cells.row.le HK.out.size) (Nat.le_refl _)).mono (by omega)
      · exact HB.out.trans (HK.out.below (by have := HB.out.size; omega) (fun q hq hS => by omega))
    | true =>
      have hT := hid (show timeR G A.d n = ⟨A.d.cells, A.d.age.map (fun x => minI (x + n)), A.d.hits⟩ by unfold timeR; rw [k1, k2]; rfl)
      obtain ⟨n0, n1⟩ := inB_iff.1 k2
      go_wp2_with fail
      refine (between_of k2).mono ?_
      rintro e w3 ⟨rfl, rfl⟩
      have hrows : 1 < X.s1.n := by
        obtain ⟨hg, _, hl, _⟩ := arrOk_parts k1
        have e1 : X.age = A.age := by have := congrArg ArrD.age HDX.out; exact this
        have e2 : X.s1.n = A.d.age.length := by rw [HOX.out.age.length, e1]; rfl
        have e3 := bankN_pos hg
        obtain ⟨_, _, ⟨q0, q1⟩, _⟩ := gOk_iff.1 hg
        rw [rowsN_yes hg] at hl
        have e4 := mul_le_of (show 0 ≤ bankN G - 1 by omega) (show bankN G - 1 ≤ 7 by have := (bankN_bd G).2; omega) (show 0 ≤ G.r by omega) q1
        have e5 : (bankN G - 1) * G.r = bankN G * G.r - G.r := by rw [Int.sub_mul, Int.one_mul]
        omega
      have hin : ∀ (k : Nat) (x : Int), X.age[k]? = some x → 0 ≤ x ∧ x ≤ 100000 := fun k x hx => by
        have e1 : X.age = A.age := by have := congrArg ArrD.age HDX.out; exact this
        rw [e1] at hx; exact ages_in (D := A.d) k1 hx
      have HIN := hid hin
      have L1 := hid HOX.out.age.length
      obtain ⟨g1, hg1, hgB, hrow⟩ := HOX.out.age.row (by omega)
      have HG1 := hid hg1
      have hne : g1 ≠ w1.heap.size := fun he => ints_not HOX.out.age HXV.out.hh (by decide) w1.heap.size ⟨by omega, by rw [hg1, he]⟩ rfl
      have HNE := hid hne
      have HROW := hid hrow
      have LM : Hid (X.s1.n = (X.age.map fun x => minI (x + n)).length) := by rw [List.length_map]; exact L1
      have hn1 : X.s1.n ≤ 1048576 := by
        have := HS.out.age
        have e1 : X.age = A.age := by have := congrArg ArrD.age HDX.out; exact this
        rw [HOX.out.age.length, e1]; exact this
      have hgl := HXV.out.lt
      have v1 := HXV.out.c1
      rw [hg1] at v1
      clear hin hg1 hne hrow k1 k2
      go_wp2_with fail
      clear v1
      go_loopw [24] (fun i wr => ∃ k : Nat, k ≤ X.s1.n ∧ i = .int .i64 k ∧ Hid (IRow wr g1 X.s1.n X.s1.c ((X.age.map fun x => minI (x + n)).take k ++ X.age.drop k)) ∧ Hid (Keeps (fun b => b = g1) w2 wr)) (fun i _ => X.s1.n - (intOf i).toNat)
      case atStart => exact ⟨0, Nat.zero_le _, rfl, by simpa using HROW, hid (Keeps.refl _ _)⟩
      case round =>
        obtain ⟨k, hk, rfl, HO, HK⟩ := hrel
        have v1 := (HXV.out.keeps HK.out (fun he => HNE.out he.symm)).c1
        rw [HG1.out] at v1
        by_cases hlt : k < X.s1.n
        · obtain ⟨x, hx⟩ := some_at L1.out hlt
          obtain ⟨x0, x1⟩ := HIN.out k x hx
          have hMx : (X.age.map fun x => minI (x + n))[k]? = some (minI (x + n)) := by rw [List.getElem?_map, hx]; rfl
          have hget : ((X.age.map fun x => minI (x + n)).take k ++ X.age.drop k)[k]? = some x := by
            have hl : ((X.age.map fun x => minI (x + n)).take k).length = k := length_take_of (by have := LM.out; omega)
            rw [List.getElem?_append_right (by omega), hl, Nat.sub_self, List.getElem?_drop]; simpa using hx
          have hc := HO.out.cell hget
          have hf := HO.out.frozen k
          have hs := HO.out.set k (minI (x + n))
          rw [over_set LM.out L1.out hMx] at hs
          have hw : IntKind.i64.wrap (x + n) = x + n := IntWalk.i64_in _ (by omega)
          have hk0 : (0 : Int) ≤ (k : Int) := by omega
          have hkn : (k : Int) < (X.s1.n : Int) := by omega
          have hMI : minI (x + n) = if 100000 < x + n then 100000 else x + n := rfl
          rw [hMI] at hs
          have HO' := hid hs.1
          have HK' := hid (HK.out.trans hs.2)
          clear hx hMx hget hs HO HK x0 x1 hMI
          go_wp2_with fail
          refine wp_region_still_tail 12 (by kernel_rfl) (by kernel_rfl) ?_
          simp only [List.take_succ_cons, List.take_zero, List.drop_succ_cons, List.drop_zero]
          repeat (first | still_step)
          refine wpStill_nil ?_
          go_wp2_with fail
          go_roundw
          case rel => exact ⟨k + 1, hlt, by go_num, hid HO'.out, hid (HK'.out.drewN 1)⟩
          case measure => simp [intOf]; omega
        · have hD := HO.out
          rw [over_done LM.out L1.out hlt] at hD
          have hk0 : (0 : Int) ≤ (k : Int) := by omega
          have hkn : ¬ (k : Int) < (X.s1.n : Int) := by omega
          have hOS := OwnS.of_row hD hgB
          rw [← HG1.out] at hOS
          have hoX := OwnA.setAge HOX.out (HK.out.mono fun b _ hb => ⟨by omega, by rw [HG1.out, hb]⟩) hOS
          have HOX := hid hoX
          have HXV := hid (HXV.out.keeps HK.out (fun he => HNE.out he.symm))
          have hgl2 : g1 < w2.heap.size := IRow.lt HROW.out
          have hgr : g1 ≠ w.heap.size + 1 + 1 := by omega
          have HXR := hid ((HK.out.block _ (lt_of_heap HXR.out) (fun he => hgr he.symm)).trans HXR.out)
          have HB := hid (HB.out.trans (HK.out.below (by have := HB.out.size; omega) (fun q hq hS => by omega)))
          clear HO HK hD hoX hOS
      
          have v0 := HXV.out.c0
          have v1 := HXV.out.c1
          have v2 := HXV.out.c2
          rw [HG1.out] at v1
          have r0 := cell_of_row wr (w.heap.size + 1 + 1) 0 _ 41 (0, 0) HXR.out
          have r1 := cell_of_row wr (w.heap.size + 1 + 1) 1 _ 41 (0, 0) HXR.out
          have r2 := cell_of_row wr (w.heap.size + 1 + 1) 2 _ 41 (0, 0) HXR.out
          have fr := fun j => frozen_of_row wr (w.heap.size + 1 + 1) j _ 41 HXR.out
          simp only [List.getElem?_toArray, List.getElem?_cons_zero, List.getElem?_cons_succ] at r0 r1 r2
          have K : Keeps (fun b => b = w.heap.size + 1 + 1) wr (((wr.setCell ⟨w.heap.size + 1 + 1, 0, none⟩ (.slice X.s0.a X.s0.n X.s0.c)).setCell ⟨w.heap.size + 1 + 1, 1, none⟩ (.slice (some ⟨g1, 0, none⟩) X.s1.n X.s1.c)).setCell ⟨w.heap.size + 1 + 1, 2, none⟩ (.slice X.s2.a X.s2.n X.s2.c)) :=
            (((Keeps.refl (fun b => b = w.heap.size + 1 + 1) wr).set ⟨w.heap.size + 1 + 1, 0, none⟩ _ rfl).set ⟨w.heap.size + 1 + 1, 1, none⟩ _ rfl).set ⟨w.heap.size + 1 + 1, 2, none⟩ _ rfl
          have HK := hid K
          clear K
          go_wp2_with fail
          refine bodyPost_ret (v := .agg #[.slice X.s0.a X.s0.n X.s0.c, .slice X.s1.a X.s1.n X.s1.c, .slice X.s2.a X.s2.n X.s2.c]) (by simp [results, Try.results44, go_sem, r0, r1, r2, HG1.out]) rfl ⟨⟨X.s0, X.s1, X.s2, X.es, X.age.map (fun x => minI (x + n)), X.hits⟩, rfl, ?_, by rw [hT.out, ← HDX.out]; rfl, ?_⟩
          · exact ((HOX.out.keeps HK.out (fun b hb hS => by have := hb.1; omega)).up (Nat.le_trans HOX.out.cells.row.le HK.out.size) (Nat.le_refl _)).mono (by omega)
          · exact HB.out.trans (HK.out.below (by have := HB.out.size; omega) (fun q hq hS => by omega))

set_option maxRecDepth 100000 in
theorem l14Time_any (X : ArrE) (B U gv : Nat) (n : Int) (w : World) (hO : OwnA w B U X) (hV : BoxV w gv X) (h1 : 1 < X.s1.n) (hn1 : X.s1.n ≤ 1048576) (hin : ∀ (k : Nat) (x : Int), X.age[k]? = some x → 0 ≤ x ∧ x ≤ 100000) (n0 : 0 ≤ n) (n1 : n ≤ 100000) :
    Calls Try.prog 93 #[.pointer (some ⟨gv, 0, none⟩), .int .i64 n] w fun e w' => e = .returned (.tuple #[]) ∧ OwnA w' B U ⟨X.s0, X.s1, X.s2, X.es, X.age.map (fun x => minI (x + n)), X.hits⟩ ∧ BoxV w' gv X ∧ Keeps (blkS X.s1.a X.s1.n) w w' := by
  have HIN := hid hin
  have HOX := hid hO
  have HXV := hid hV
  have L1 := hid HOX.out.age.length
  obtain ⟨g1, hg1, hgB, hrow⟩ := HOX.out.age.row (by omega)
  have HG1 := hid hg1
  have hne : g1 ≠ gv := fun he => ints_not HOX.out.age HXV.out.hh (by decide) gv ⟨by omega, by rw [hg1, he]⟩ rfl
  have HNE := hid hne
  have HROW := hid hrow
  have LM : Hid (X.s1.n = (X.age.map fun x => minI (x + n)).length) := by rw [List.length_map]; exact L1
  clear hO hV hin hg1 hne hrow
  go_enter Try.func93, Try.ntmps93
  go_wp2_with fail
  go_loopw [4] (fun i wr => ∃ k : Nat, k ≤ X.s1.n ∧ i = .int .i64 k ∧ Hid (IRow wr g1 X.s1.n X.s1.c ((X.age.map fun x => minI (x + n)).take k ++ X.age.drop k)) ∧ Hid (Keeps (fun b => b = g1) w wr)) (fun i _ => X.s1.n - (intOf i).toNat)
  case atStart => exact ⟨0, Nat.zero_le _, rfl, by simpa using HROW, hid (Keeps.refl _ _)⟩
  case round =>
    obtain ⟨k, hk, rfl, HO, HK⟩ := hrel
    have v1 := (HXV.out.keeps HK.out (fun he => HNE.out he.symm)).c1
    rw [HG1.out] at v1
    have hgl := (HXV.out.keeps HK.out (fun he => HNE.out he.symm)).lt
    by_cases hlt : k < X.s1.n
    · obtain ⟨x, hx⟩ := some_at L1.out hlt
      obtain ⟨x0, x1⟩ := HIN.out k x hx
      have hMx : (X.age.map fun x => minI (x + n))[k]? = some (minI (x + n)) := by rw [List.getElem?_map, hx]; rfl
      have hget : ((X.age.map fun x => minI (x + n)).take k ++ X.age.drop k)[k]? = some x := by
        have hl : ((X.age.map fun x => minI (x + n)).take k).length = k := length_take_of (by have := LM.out; omega)
        rw [List.getElem?_append_right (by omega), hl, Nat.sub_self, List.getElem?_drop]; simpa using hx
      have hc := HO.out.cell hget
      have hf := HO.out.frozen k
      have hs := HO.out.set k (minI (x + n))
      rw [over_set LM.out L1.out hMx] at hs
      have hw : IntKind.i64.wrap (x + n) = x + n := IntWalk.i64_in _ (by omega)
      have hk0 : (0 : Int) ≤ (k : Int) := by omega
      have hkn : (k : Int) < (X.s1.n : Int) := by omega
      have hMI : minI (x + n) = if 100000 < x + n then 100000 else x + n := rfl
      rw [hMI] at hs
      have HO' := hid hs.1
      have HK' := hid (HK.out.trans hs.2)
      clear hx hMx hget hs HO HK x0 x1 hMI
      go_wp2_with fail
      refine wp_region_still_tail 16 (by kernel_rfl) (by kernel_rfl) ?_
      simp only [List.take_succ_cons, List.take_zero, List.drop_succ_cons, List.drop_zero]
      repeat (first | still_step)
      refine wpStill_nil ?_
      go_wp2_with fail
      go_roundw
      case rel => exact ⟨k + 1, hlt, by go_num, hid HO'.out, hid (HK'.out.drewN 1)⟩
      case measure => simp [intOf]; omega
    · have hD := HO.out
      rw [over_done LM.out L1.out hlt] at hD
      have hk0 : (0 : Int) ≤ (k : Int) := by omega
      have hkn : ¬ (k : Int) < (X.s1.n : Int) := by omega
      have hOS := OwnS.of_row hD hgB
      rw [← HG1.out] at hOS
      have hoX := OwnA.setAge HOX.out (HK.out.mono fun b _ hb => ⟨by omega, by rw [HG1.out, hb]⟩) hOS
      have HOX := hid hoX
      have HXV := hid (HXV.out.keeps HK.out (fun he => HNE.out he.symm))
      have hK := hid (HK.out.mono (T := blkS X.s1.a X.s1.n) fun b _ hb => ⟨by omega, by rw [HG1.out, hb]⟩)
      clear HO HK hD hoX hOS
      go_wp2
      refine bodyPost_end (results_none rfl _ _ _) rfl ⟨rfl, HOX.out, HXV.out, hK.out⟩

set_option maxRecDepth 100000 in
theorem specTimePasses_any (G : Geo) (A : ArrE) (n : Int) (w : World) (hA : ArrR w A) (hs : A.d.small) :
    Calls Try.prog 43 #[.agg #[.int .i64 G.a, .int .i64 G.b, .int .i64 G.r, .int .i64 G.c], .agg #[.slice A.s0.a A.s0.n A.s0.c, .slice A.s1.a A.s1.n A.s1.c, .slice A.s2.a A.s2.n A.s2.c], .int .i64 n] w fun e w' => ∃ A' : ArrE, e = .returned (.agg #[.slice A'.s0.a A'.s0.n A'.s0.c, .slice A'.s1.a A'.s1.n A'.s1.c, .slice A'.s2.a A'.s2.n A'.s2.c]) ∧ OwnA w' w.heap.size w'.heap.size A' ∧ A'.d = timeR G A.d n ∧ Below w.heap.size w w' := by
  have HA := hid hA
  have HS := hid hs
  clear hA hs
  go_enter Try.func43, Try.ntmps43
  go_wp2_with fail
  refine (specCopyArray_any A _ (HA.out.old (below_alloc3 _ _ _ _)) HS.out).mono ?_
  rintro e w1 ⟨X, rfl, OX, DX, B1⟩
  have HXG := hid ((((BoxG.new_ w 37 G (show _ = w.heap.size by simp)).old (below_alloc _ _)).old (below_alloc _ _)).old B1)
  have HXA := hid (((BoxR.new_ (w.alloc _) 41 A (show _ = w.heap.size + 1 by simp)).old (below_alloc _ _)).old B1)
  have XR : w1.heap[w.heap.size + 1 + 1]? = some (.cells #[.slice none 0 0, .slice none 0 0, .slice none 0 0] 41 (0, 0)) := by
    rw [B1.block _ (by simp)]
    have := heap_alloc_new ((w.alloc (.cells #[.int .i64 G.a, .int .i64 G.b, .int .i64 G.r, .int .i64 G.c] 37)).alloc (.cells #[.slice A.s0.a A.s0.n A.s0.c, .slice A.s1.a A.s1.n A.s1.c, .slice A.s2.a A.s2.n A.s2.c] 41)) (.cells #[.slice none 0 0, .slice none 0 0, .slice none 0 0] 41)
    simpa using this
  have HB := hid (below_step (below_alloc3 _ _ _ _) B1 (Nat.le_refl _))
  have hsz1 := B1.size
  simp only [World.size_alloc] at hsz1
  have hoX := OX.mono (B' := w.heap.size + 1 + 1 + 1) (by simp)
  have HOX := hid hoX
  have HDX := hid DX
  have HXR := hid XR
  clear OX hoX DX XR B1
  have oG0 := HXG.out.c0
  have oG1 := HXG.out.c1
  have oG2 := HXG.out.c2
  have oG3 := HXG.out.c3
  have olG := HXG.out.lt
  have oA0 := HXA.out.c0
  have oA1 := HXA.out.c1
  have oA2 := HXA.out.c2
  have olA := HXA.out.lt
  have hwa : Below w1.heap.size w1 (w1.alloc (.cells #[.slice X.s0.a X.s0.n X.s0.c, .slice X.s1.a X.s1.n X.s1.c, .slice X.s2.a X.s2.n X.s2.c] 41)) := below_alloc _ _
  have HWA := hid hwa
  clear hwa
  have HXV := hid (BoxV.new w1 X)
  go_wp2_with fail
  clear oG0 oG1 oG2 oG3 olG oA0 oA1 oA2 olA
  have HXG := hid (HXG.out.old HWA.out)
  have HXA := hid (HXA.out.old HWA.out)
  have HOX := hid (HOX.out.old HWA.out)
  have HXR := hid ((HWA.out.block _ (lt_of_heap HXR.out)).trans HXR.out)
  have HB := hid (below_step HB.out HWA.out (Nat.le_refl _))
  refine (specArrayOk_any G A _ (HA.out.old HB.out) HS.out).mono ?_
  rintro e w2 ⟨rfl, B⟩
  have HXG := hid (HXG.out.old B)
  have HXA := hid (HXA.out.old B)
  have HOX := hid (HOX.out.old B)
  have HXV := hid (HXV.out.old B)
  have HXR := hid ((B.block _ (lt_of_heap HXR.out)).trans HXR.out)
  have HB := hid (below_step HB.out B (Nat.le_refl _))
  clear B
  cases k1 : arrOk G A.d with
  | false =>
    have hT := hid (show timeR G A.d n = A.d by unfold timeR; rw [k1]; rfl)
    have v0 := HXV.out.c0
    have v1 := HXV.out.c1
    have v2 := HXV.out.c2
    have r0 := cell_of_row w2 (w.heap.size + 1 + 1) 0 _ 41 (0, 0) HXR.out
    have r1 := cell_of_row w2 (w.heap.size + 1 + 1) 1 _ 41 (0, 0) HXR.out
    have r2 := cell_of_row w2 (w.heap.size + 1 + 1) 2 _ 41 (0, 0) HXR.out
    have fr := fun j => frozen_of_row w2 (w.heap.size + 1 + 1) j _ 41 HXR.out
    simp only [List.getElem?_toArray, List.getElem?_cons_zero, List.getElem?_cons_succ] at r0 r1 r2
    have K : Keeps (fun b => b = w.heap.size + 1 + 1) w2 (((w2.setCell ⟨w.heap.size + 1 + 1, 0, none⟩ (.slice X.s0.a X.s0.n X.s0.c)).setCell ⟨w.heap.size + 1 + 1, 1, none⟩ (.slice X.s1.a X.s1.n X.s1.c)).setCell ⟨w.heap.size + 1 + 1, 2, none⟩ (.slice X.s2.a X.s2.n X.s2.c)) :=
      (((Keeps.refl (fun b => b = w.heap.size + 1 + 1) w2).set ⟨w.heap.size + 1 + 1, 0, none⟩ _ rfl).set ⟨w.heap.size + 1 + 1, 1, none⟩ _ rfl).set ⟨w.heap.size + 1 + 1, 2, none⟩ _ rfl
    have HK := hid K
    clear K
    go_wp2_with fail
    refine bodyPost_ret (v := .agg #[.slice X.s0.a X.s0.n X.s0.c, .slice X.s1.a X.s1.n X.s1.c, .slice X.s2.a X.s2.n X.s2.c]) (by simp [results, Try.results43, go_sem, r0, r1, r2]) rfl ⟨X, rfl, ?_, by rw [HDX.out, hT.out], ?_⟩
    · exact ((HOX.out.keeps HK.out (fun b hb hS => by have := hb.1; omega)).up (Nat.le_trans HOX.out.cells.row.le HK.out.size) (Nat.le_refl _)).mono (by omega)
    · exact HB.out.trans (HK.out.below (by have := HB.out.size; omega) (fun q hq hS => by omega))
  | true =>
    cases k2 : inB n 0 100000 with
    | false =>
      have hT := hid (show timeR G A.d n = A.d by unfold timeR; rw [k1, k2]; rfl)
      go_wp2_with fail
      refine (l01In_of k2).mono ?_
      rintro e w3 ⟨rfl, rfl⟩
      have v0 := HXV.out.c0
      have v1 := HXV.out.c1
      have v2 := HXV.out.c2
      have r0 := cell_of_row w2 (w.heap.size + 1 + 1) 0 _ 41 (0, 0) HXR.out
      have r1 := cell_of_row w2 (w.heap.size + 1 + 1) 1 _ 41 (0, 0) HXR.out
      have r2 := cell_of_row w2 (w.heap.size + 1 + 1) 2 _ 41 (0, 0) HXR.out
      have fr := fun j => frozen_of_row w2 (w.heap.size + 1 + 1) j _ 41 HXR.out
      simp only [List.getElem?_toArray, List.getElem?_cons_zero, List.getElem?_cons_succ] at r0 r1 r2
      have K : Keeps (fun b => b = w.heap.size + 1 + 1) w2 (((w2.setCell ⟨w.heap.size + 1 + 1, 0, none⟩ (.slice X.s0.a X.s0.n X.s0.c)).setCell ⟨w.heap.size + 1 + 1, 1, none⟩ (.slice X.s1.a X.s1.n X.s1.c)).setCell ⟨w.heap.size + 1 + 1, 2, none⟩ (.slice X.s2.a X.s2.n X.s2.c)) :=
        (((Keeps.refl (fun b => b = w.heap.size + 1 + 1) w2).set ⟨w.heap.size + 1 + 1, 0, none⟩ _ rfl).set ⟨w.heap.size + 1 + 1, 1, none⟩ _ rfl).set ⟨w.heap.size + 1 + 1, 2, none⟩ _ rfl
      have HK := hid K
      clear K
      go_wp2_with fail
      refine bodyPost_ret (v := .agg #[.slice X.s0.a X.s0.n X.s0.c, .slice X.s1.a X.s1.n X.s1.c, .slice X.s2.a X.s2.n X.s2.c]) (by simp [results, Try.results43, go_sem, r0, r1, r2]) rfl ⟨X, rfl, ?_, by rw [HDX.out, hT.out], ?_⟩
      · exact ((HOX.out.keeps HK.out (fun b hb hS => by have := hb.1; omega)).up (Nat.le_trans HOX.out.cells.row.le HK.out.size) (Nat.le_refl _)).mono (by omega)
      · exact HB.out.trans (HK.out.below (by have := HB.out.size; omega) (fun q hq hS => by omega))
    | true =>
      have hT := hid (show timeR G A.d n = ⟨A.d.cells, A.d.age.map (fun x => minI (x + n)), A.d.hits⟩ by unfold timeR; rw [k1, k2]; rfl)
      obtain ⟨n0, n1⟩ := inB_iff.1 k2
      go_wp2_with fail
      refine (l01In_of k2).mono ?_
      rintro e w3 ⟨rfl, rfl⟩
      have hrows : 1 < X.s1.n := by
        obtain ⟨hg, _, hl, _⟩ := arrOk_parts k1
        have e1 : X.age = A.age := by have := congrArg ArrD.age HDX.out; exact this
        have e2 : X.s1.n = A.d.age.length := by rw [HOX.out.age.length, e1]; rfl
        have e3 := bankN_pos hg
        obtain ⟨_, _, ⟨q0, q1⟩, _⟩ := gOk_iff.1 hg
        rw [rowsN_yes hg] at hl
        have e4 := mul_le_of (show 0 ≤ bankN G - 1 by omega) (show bankN G - 1 ≤ 7 by have := (bankN_bd G).2; omega) (show 0 ≤ G.r by omega) q1
        have e5 : (bankN G - 1) * G.r = bankN G * G.r - G.r := by rw [Int.sub_mul, Int.one_mul]
        omega
      have hin : ∀ (k : Nat) (x : Int), X.age[k]? = some x → 0 ≤ x ∧ x ≤ 100000 := fun k x hx => by
        have e1 : X.age = A.age := by have := congrArg ArrD.age HDX.out; exact this
        rw [e1] at hx; exact ages_in (D := A.d) k1 hx
      have HIN := hid hin
      have L1 := hid HOX.out.age.length
      obtain ⟨g1, hg1, hgB, hrow⟩ := HOX.out.age.row (by omega)
      have HG1 := hid hg1
      have hne : g1 ≠ w1.heap.size := fun he => ints_not HOX.out.age HXV.out.hh (by decide) w1.heap.size ⟨by omega, by rw [hg1, he]⟩ rfl
      have HNE := hid hne
      have HROW := hid hrow
      have LM : Hid (X.s1.n = (X.age.map fun x => minI (x + n)).length) := by rw [List.length_map]; exact L1
      have hn1 : X.s1.n ≤ 1048576 := by
        have := HS.out.age
        have e1 : X.age = A.age := by have := congrArg ArrD.age HDX.out; exact this
        rw [HOX.out.age.length, e1]; exact this
      clear hin hg1 hne hrow k1 k2
      go_wp2_with fail
      refine (l14Time_any X _ _ _ n w2 HOX.out HXV.out hrows hn1 HIN.out n0 n1).mono ?_
      rintro e w4 ⟨rfl, O4, V4, K4⟩
      have hgl2 : g1 < w2.heap.size := IRow.lt HROW.out
      have hgr : g1 ≠ w.heap.size + 1 + 1 := by omega
      have hbl : ∀ b, blkS X.s1.a X.s1.n b → b = g1 := fun b hb => by have := hb.2; rw [HG1.out] at this; simpa using this.symm
      have HOX := hid O4
      have HXV := hid V4
      have HXR := hid ((K4.block _ (lt_of_heap HXR.out) (fun he => hgr (hbl _ he).symm)).trans HXR.out)
      have HB := hid (HB.out.trans (K4.below (by have := HB.out.size; omega) (fun q hq hS => by have := hbl q hS; omega)))
      clear O4 V4 K4
      have v0 := HXV.out.c0
      have v1 := HXV.out.c1
      have v2 := HXV.out.c2
      have r0 := cell_of_row w4 (w.heap.size + 1 + 1) 0 _ 41 (0, 0) HXR.out
      have r1 := cell_of_row w4 (w.heap.size + 1 + 1) 1 _ 41 (0, 0) HXR.out
      have r2 := cell_of_row w4 (w.heap.size + 1 + 1) 2 _ 41 (0, 0) HXR.out
      have fr := fun j => frozen_of_row w4 (w.heap.size + 1 + 1) j _ 41 HXR.out
      simp only [List.getElem?_toArray, List.getElem?_cons_zero, List.getElem?_cons_succ] at r0 r1 r2
      have K : Keeps (fun b => b = w.heap.size + 1 + 1) w4 (((w4.setCell ⟨w.heap.size + 1 + 1, 0, none⟩ (.slice X.s0.a X.s0.n X.s0.c)).setCell ⟨w.heap.size + 1 + 1, 1, none⟩ (.slice X.s1.a X.s1.n X.s1.c)).setCell ⟨w.heap.size + 1 + 1, 2, none⟩ (.slice X.s2.a X.s2.n X.s2.c)) :=
        (((Keeps.refl (fun b => b = w.heap.size + 1 + 1) w4).set ⟨w.heap.size + 1 + 1, 0, none⟩ _ rfl).set ⟨w.heap.size + 1 + 1, 1, none⟩ _ rfl).set ⟨w.heap.size + 1 + 1, 2, none⟩ _ rfl
      have HK := hid K
      clear K
      go_wp2_with fail
      refine bodyPost_ret (v := .agg #[.slice X.s0.a X.s0.n X.s0.c, .slice X.s1.a X.s1.n X.s1.c, .slice X.s2.a X.s2.n X.s2.c]) (by simp [results, Try.results43, go_sem, r0, r1, r2]) rfl ⟨⟨X.s0, X.s1, X.s2, X.es, X.age.map (fun x => minI (x + n)), X.hits⟩, rfl, ?_, by rw [hT.out, ← HDX.out]; rfl, ?_⟩
      · exact ((HOX.out.keeps HK.out (fun b hb hS => by have := hb.1; omega)).up (Nat.le_trans HOX.out.cells.row.le HK.out.size) (Nat.le_refl _)).mono (by omega)
      · exact HB.out.trans (HK.out.below (by have := HB.out.size; omega) (fun q hq hS => by omega))
end Go.Proofs.Ytnfkkkjookfdiaa
