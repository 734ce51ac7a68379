/- EncodeSymbols, DataOf, WordOk: what the program's and the reference's calls return. -/
import Derived.Test.YtgconjollemjiaaCodeW
import Derived.Test.YtgconjollemjiaaMemA
import Derived.WalkSpells
namespace Go.Proofs.Ytgconjollemjiaa
open Go.RowKit

theorem symOk_pad {xs : List Int} (h : symOk xs 8 = true) : symOk ([0, 0, 0] ++ xs) 11 = true := by
  simp only [symOk, allEl, Bool.and_eq_true, List.all_append] at h ⊢
  refine ⟨⟨by decide, h.1⟩, ?_⟩
  have := h.2
  simp at this ⊢
  omega

set_option maxRecDepth 100000 in
theorem implEncodeSymbols_yes (a : Option Addr) (c : Nat) (xs : List Int) (w : World) (hx : IntsR w a xs) (hm : xs.length = 8) (hok : symOk xs 8 = true) :
    Calls Try.prog 60 #[.slice a 8 c] w fun e w' => ∃ g cap, e = .returned (.slice (some ⟨g, 0, none⟩) 11 cap) ∧ w.heap.size ≤ g ∧ IRow w' g 11 cap (encI xs) ∧ Below w.heap.size w w' := by
  have HX := hid hx
  have HM := hid hm
  have hpad := hid (symOk_pad hok)
  clear hx hm
  have hmk := make3
  go_enter Try.func60, Try.ntmps60
  go_wp2_with (first
    | (go_at_call 38; refine (implSymbolsOk_any _ _ _ _ _ _ HX.out HM.out.symm (by rw [HM.out]; omega)).mono ?_; rintro e w' ⟨rfl, q, rfl⟩)
    | (at_builtin; refine wpList_append_ints rfl _ _ rfl _ w.heap.size w.heap.size 3 3 [0, 0, 0] (zeros3 _) (by simp) rfl a 8 c xs ((HX.out.drewN _).old ((Below.refl _ _).alloc (by simp) _)) HM.out.symm rfl 11 rfl (by omega) (by simp) ?_; intro g cap w1 hg hrow hbel))
  have hE : encI xs = [encC0 (synN ([0, 0, 0] ++ xs) 0 11) (synN ([0, 0, 0] ++ xs) 1 11) (synN ([0, 0, 0] ++ xs) 2 11), encC1 (synN ([0, 0, 0] ++ xs) 0 11) (synN ([0, 0, 0] ++ xs) 1 11) (synN ([0, 0, 0] ++ xs) 2 11), encC2 (synN ([0, 0, 0] ++ xs) 0 11) (synN ([0, 0, 0] ++ xs) 1 11) (synN ([0, 0, 0] ++ xs) 2 11)] ++ xs := rfl
  refine (implSyndromes_yes _ _ _ _ hrow.reads (by simp [HM.out]) hpad.out).mono ?_
  rintro e w2 ⟨gs, rfl, hgs, S, B2⟩
  have hlt := hrow.lt
  have R := hrow.old B2
  unfold syn at S
  generalize synN ([0, 0, 0] ++ xs) 0 11 = s0 at *
  generalize synN ([0, 0, 0] ++ xs) 1 11 = s1 at *
  generalize synN ([0, 0, 0] ++ xs) 2 11 = s2 at *
  have c0 := S.cell (i := 0) rfl
  have c1 := S.cell (i := 1) rfl
  have c2 := S.cell (i := 2) rfl
  have r0 := R.cell (i := 0) rfl
  have r1 := R.cell (i := 1) rfl
  have r2 := R.cell (i := 2) rfl
  have f0 := R.frozen 0
  have f1 := R.frozen 1
  have f2 := R.frozen 2
  have hne : ¬ gs = g := by omega
  have hne' : ¬ g = gs := by omega
  unfold encC0 encC1 encC2 at hE
  have HE := hid hE
  have HR := hid R
  have HS := hid S
  have HB2 := hid ((((Below.refl w.heap.size w).trans (below_ofDrewN _ _ q)).alloc (by simp) (.cells #[.int .i64 0, .int .i64 0, .int .i64 0] 3)).trans (hbel.trans (B2.mono (by have := hbel.size; simp at this; omega))))
  clear hE R S hrow hbel B2 hmk
  go_wp2
  go_quiet (fail)
  go_wp2_with (first
    | (go_at_call 45; refine (implGfInv_any _ _).mono ?_; rintro e w' ⟨rfl, rfl⟩)
    | (go_at_call 35; refine (implGfMul_any _ _ _).mono ?_; rintro e w' ⟨rfl, rfl⟩))
  generalize gfMul (bits .xor .i64 (gfMul 2 (bits .xor .i64 s0 s1)) (gfMul 5 (bits .xor .i64 s0 s2))) (gfInv 4) = e1 at *
  generalize gfMul (bits .xor .i64 (gfMul 3 (bits .xor .i64 s0 s2)) (gfMul 5 (bits .xor .i64 s0 s1))) (gfInv 4) = e2 at *
  refine wp_world ?_
  intro w3 hw3
  have R1 := (HR.out.drewN nq).set 1 e1
  have R2 := R1.1.set 2 e2
  have R3 : IRow w3 g 11 cap ([0, e1, e2] ++ xs) := by rw [hw3.out]; exact R2.1
  have S3 : IRow w3 gs 3 3 [s0, s1, s2] := by rw [hw3.out]; exact (HS.out.drewN nq).keeps (R1.2.trans R2.2) hne
  have B3 : Below w.heap.size w w3 := by rw [hw3.out]; exact ((below_drewN HB2.out nq).setCell (p := ⟨g, 1, none⟩) hg _).setCell (p := ⟨g, 2, none⟩) hg _
  clear R1 R2 c0 c1 c2 r0 r1 r2 f0 f1 f2 HS HR HB2
  have c0 := S3.cell (i := 0) rfl
  have r0 := R3.cell (i := 0) rfl
  have r1 := R3.cell (i := 1) rfl
  have r2 := R3.cell (i := 2) rfl
  have f0 := R3.frozen 0
  have HR := hid (R3.set 0 (bits .xor .i64 (bits .xor .i64 s0 e1) e2)).1
  have HB := hid (B3.setCell (p := ⟨g, 0, none⟩) hg (.int .i64 (bits .xor .i64 (bits .xor .i64 s0 e1) e2)))
  clear R3 S3 B3
  refine wp_region_still_tail 13 (by kernel_rfl) (by kernel_rfl) ?_
  simp only [List.take_succ_cons, List.take_zero, List.drop_succ_cons, List.drop_zero]
  repeat still_step
  refine wpStill_nil ?_
  go_wp2
  go_ret
  exact ⟨g, cap, rfl, hg, by rw [HE.out]; exact HR.out, HB.out.drew⟩

theorem getD_of {α : Type} {xs : List α} {k : Nat} {x z : α} (h : xs[k]? = some x) : xs[k]?.getD z = x := by rw [h]; rfl

theorem ones2 (w : World) : IRow (w.alloc (.cells #[.int .i64 1, .int .i64 1] 3)) w.heap.size 2 2 [1, 1] := by
  have := World.ownsRow_lit (base := w.heap.size) (e := 3) (size := 1) w #[.int .i64 1, .int .i64 1] 2 (Nat.le_refl _) (by unfold maxLen; omega) (by simp)
  simpa [IRow] using this

set_option maxRecDepth 100000 in
set_option maxHeartbeats 1600000 in
theorem specEncodeSymbols_yes (a : Option Addr) (c : Nat) (xs : List Int) (w : World) (hx : IntsR w a xs) (hm : xs.length = 8) (hok : symOk xs 8 = true) :
    Calls Try.prog 65 #[.slice a 8 c] w fun e w' => ∃ g cap, e = .returned (.slice (some ⟨g, 0, none⟩) 11 cap) ∧ w.heap.size ≤ g ∧ IRow w' g 11 cap (encS xs) ∧ Below w.heap.size w w' := by
  have HX := hid hx
  have HM := hid hm
  clear hx hm
  have hmk := make3
  go_enter Try.func65, Try.ntmps65
  go_wp2_with (first
    | (go_at_call 36; refine (specSymbolsOk_any _ _ _ _ _ _ HX.out HM.out.symm (by rw [HM.out]; omega)).mono ?_; rintro e w' ⟨rfl, q, rfl⟩)
    | (at_builtin; refine wpList_append_ints rfl _ _ rfl _ w.heap.size w.heap.size 3 3 [0, 0, 0] (zeros3 _) (by simp) rfl a 8 c xs ((HX.out.drewN _).old ((Below.refl _ _).alloc (by simp) _)) HM.out.symm rfl 11 rfl (by omega) (by simp) ?_; intro gw capw w1 hg hrow hbel))
  have HB1 := hid (((below_ofDrewN w.heap.size w q).alloc (by simp) (.cells #[.int .i64 0, .int .i64 0, .int .i64 0] 3)).trans hbel)
  have hsz1 := HB1.out.size
  have HO1 := hid (ones2 w1)
  have HW1 := hid (hrow.old ((Below.refl _ w1).alloc (Nat.le_refl _) (.cells #[.int .i64 1, .int .i64 1] 3)))
  have hlt := hrow.lt
  clear hrow hbel hmk
  go_loopw [4, 5] (fun v i wr => ∃ j gb cb : Nat, 1 ≤ j ∧ j ≤ 3 ∧ i = .int .i64 j ∧ v = .slice (some ⟨gb, 0, none⟩) (j + 1) cb ∧ w.heap.size ≤ gb ∧ ¬ gb = gw ∧ Hid (IRow wr gb (j + 1) cb (byL j)) ∧ Hid (IRow wr gw 11 capw ([0, 0, 0] ++ xs)) ∧ Hid (Below w.heap.size w wr)) (fun _ i _ => 3 - (intOf i).toNat)
  case atStart => exact ⟨1, w1.heap.size, 2, by omega, by omega, rfl, rfl, hsz1, by omega, HO1, HW1, HB1.out.alloc hsz1 _⟩
  case round =>
    obtain ⟨j, gb, cb, hj1, hj3, rfl, rfl, hgb, hne, HO, HW, HB⟩ := hrel
    by_cases hlj : j < 3
    · have hd : decide ((j : Int) < 3) = true := by simp; omega
      obtain ⟨i0, hi, hz0, hz1, hz2⟩ := info_parts infoInt
      have hsz := HB.out.size
      go_wp2_with (first | (at_make; refine wpList_make_full _ rfl _ _ 24 rfl wr.heap.size 3 i0 (.int .i64 0) 1 Try.underlying24 hi hz0 hz1 _ _ _ _ (j + 2) rfl rfl (by omega) (by omega) (by rw [hz2]; omega) (by unfold maxLen; omega) (Nat.le_refl _) ?_; intro w2 hown hgr))
      have HN0 := hid (IRow.made hown)
      have b2 : Below wr.heap.size wr w2 := (Below.refl _ _).grown hgr (Nat.le_refl _) (fun k h => by cases h)
      have HO2 := hid (HO.out.old b2)
      have HW2 := hid (HW.out.old b2)
      have HB2 := hid (HB.out.trans (b2.mono hsz))
      have hgo := HO.out.lt
      have hgwl := HW.out.lt
      have HL := hid (length_byL hj1 (by omega : j ≤ 3))
      clear hown hgr b2 HO HW HB hd hi hz0 hz1 hz2 i0
      generalize wr.heap.size = gn at *
      have hji : (j : Int) < 3 := by omega
      go_loopw [7] (fun i wl => ∃ k : Nat, k ≤ j + 1 ∧ i = .int .i64 k ∧ Hid (IRow wl gn (j + 2) (j + 2) (nx (byL j) (gfPow 2 j) k)) ∧ Hid (IRow wl gb (j + 1) cb (byL j)) ∧ Hid (IRow wl gw 11 capw ([0, 0, 0] ++ xs)) ∧ Hid (Below w.heap.size w wl)) (fun i _ => j + 1 - (intOf i).toNat)
      case atStart => exact ⟨0, by omega, rfl, by rw [nx, HL.out]; exact HN0, HO2, HW2, HB2⟩
      case round =>
        clear HN0 HO2 HW2 HB2
        obtain ⟨k, hk, rfl, HN, HO, HW, HB⟩ := hrel
        by_cases hlk : k < j + 1
        · obtain ⟨x, hx⟩ := some_at HL.out.symm hlk
          obtain ⟨u, hu⟩ := some_at (xs := nx (byL j) (gfPow 2 j) k) (n := j + 2) (k := k + 1) (by rw [length_nx, HL.out]) (by omega)
          have R1 := HN.out.set (k + 1) (bits .xor .i64 u x)
          obtain ⟨v, hv⟩ := some_at (xs := (nx (byL j) (gfPow 2 j) k).set (k + 1) (bits .xor .i64 u x)) (n := j + 2) (k := k) (by rw [List.length_set, length_nx, HL.out]) (by omega)
          have hnx : nx (byL j) (gfPow 2 j) (k + 1) = ((nx (byL j) (gfPow 2 j) k).set (k + 1) (bits .xor .i64 u x)).set k (bits .xor .i64 v (gfMul x (gfPow 2 j))) := by
            simp only [nx, getD_of hx, getD_of hu, getD_of hv]
          have HNX := hid hnx
          have c1 := HN.out.cell hu
          have c2 := HO.out.cell hx
          have f1 := HN.out.frozen (k + 1)
          have HR1 := hid R1.1
          have HO1 := hid (HO.out.keeps R1.2 (by omega))
          have HW1 := hid (HW.out.keeps R1.2 (by omega))
          have HB1 := hid (HB.out.setCell (p := ⟨gn, k + 1, none⟩) hsz (.int .i64 (bits .xor .i64 u x)))
          have hk1 : (k : Int) + 1 < (j : Int) + 2 := by omega
          have hk2 : (k : Int) < (j : Int) + 1 := by omega
          have hk3 : (k : Int) < (j : Int) + 2 := by omega
          have HX' := hid hx
          have HV' := hid hv
          clear hx hu hv hnx R1 HN HO HW HB
          go_wp2
          have s1 : IntKind.i64.wrap ((k : Int) + 1) = (k : Int) + 1 := IntWalk.i64_in _ (by omega)
          have s2 : 0 ≤ (k : Int) + 1 := by omega
          have s3 : ((k : Int) + 1).toNat = k + 1 := by omega
          refine wp_region_still_tail 14 (by kernel_rfl) (by kernel_rfl) ?_
          simp only [List.take_succ_cons, List.take_zero, List.drop_succ_cons, List.drop_zero]
          repeat still_step
          refine wpStill_nil ?_
          go_wp2
          clear s1 s2 s3
          refine wp_world ?_
          intro w3 hw3
          have R1 : IRow w3 gn (j + 2) (j + 2) ((nx (byL j) (gfPow 2 j) k).set (k + 1) (bits .xor .i64 u x)) := by rw [hw3.out]; exact HR1.out
          have O1 : IRow w3 gb (j + 1) cb (byL j) := by rw [hw3.out]; exact HO1.out
          have W1 : IRow w3 gw 11 capw ([0, 0, 0] ++ xs) := by rw [hw3.out]; exact HW1.out
          have B1 : Below w.heap.size w w3 := by rw [hw3.out]; exact HB1.out.drew
          clear c1 c2 f1 HR1 HO1 HW1 HB1 hw3
          have c1 := R1.cell HV'.out
          have c2 := O1.cell HX'.out
          have f1 := R1.frozen k
          have R2 := R1.set k (bits .xor .i64 v (gfMul x (gfPow 2 j)))
          rw [← HNX.out] at R2
          have HR2 := hid R2.1
          have HO2 := hid (O1.keeps R2.2 (by omega))
          have HW2 := hid (W1.keeps R2.2 (by omega))
          have HB2 := hid (B1.setCell (p := ⟨gn, k, none⟩) hsz (.int .i64 (bits .xor .i64 v (gfMul x (gfPow 2 j)))))
          clear R1 O1 W1 B1 R2
          refine wp_region_still_tail 15 (by kernel_rfl) (by kernel_rfl) ?_
          simp only [List.take_succ_cons, List.take_zero, List.drop_succ_cons, List.drop_zero]
          repeat (first | still_step | still_call ((specGfPow_any _ _ _).mono fun e w' h => ⟨h.1, h.2.symm⟩) | still_call ((specGfMul_any _ _ _).mono fun e w' h => ⟨h.1, h.2.symm⟩))
          refine wpStill_nil ?_
          go_wp2
          go_roundw
          case rel => exact ⟨k + 1, by omega, by go_num, HR2, HO2, HW2, HB2.out.drew⟩
          case measure => simp [intOf]; omega
        · have hkj : k = j + 1 := by omega
          subst hkj
          have hbl : byL (j + 1) = nx (byL j) (gfPow 2 j) (j + 1) := by
            obtain ⟨j', rfl⟩ : ∃ j', j = j' + 1 := ⟨j - 1, by omega⟩
            rfl
          rw [← hbl] at HN
          clear hbl
          go_wp2
          go_roundw
          case rel => exact ⟨j + 1, gn, j + 2, by omega, by omega, by go_num, rfl, hsz, by omega, HN, HW, HB⟩
          case measure => simp [intOf]; omega
    · have hj : j = 3 := by omega
      subst hj
      rw [show (3 + 1 : Nat) = 4 from rfl] at *
      have hsz := HB.out.size
      have he := hid (IRow.empty wr)
      have hlw := HW.out.lt
      have hlo := HO.out.lt
      go_wp2_with (at_builtin; refine wpList_append_ints rfl _ _ rfl _ wr.heap.size wr.heap.size 0 0 [] he.out (Nat.le_refl _) rfl _ 11 capw ([0, 0, 0] ++ xs) ((HW.out.reads).old ((Below.refl _ _).alloc (by simp) _)) (by simp [HM.out]) rfl 11 rfl (by omega) (by simp) ?_; intro gr capr w2 hgr hrow hbel)
      have b2 : Below wr.heap.size wr w2 := ((Below.refl _ _).alloc (Nat.le_refl _) (.cells #[] 3)).trans hbel
      have HO2 := hid (HO.out.old b2)
      have HW2 := hid (HW.out.old b2)
      have HB2 := hid (HB.out.trans (b2.mono hsz))
      have HR2 : Hid (IRow w2 gr 11 capr (rOut ([0, 0, 0] ++ xs) 0)) := hrow
      have HLW : Hid (([0, 0, 0] ++ xs).length = 11) := by show _ = _; simp [HM.out]
      generalize hw0 : [0, 0, 0] ++ xs = w0 at *
      have HW0 := hid hw0
      clear hw0
      clear hrow hbel b2 he HO HW HB HO1 HW1 HB1
      generalize wr.heap.size = hs1 at *
      go_loopw [9] (fun i wl => ∃ n i' : Nat, n ≤ 8 ∧ Hid (i' + n = 10) ∧ i' ≤ 10 ∧ 2 ≤ i' ∧ i = .int .i64 i' ∧ Hid (IRow wl gr 11 capr (rOut w0 n)) ∧ Hid (IRow wl gb 4 cb (byL 3)) ∧ Hid (IRow wl gw 11 capw w0) ∧ Hid (Below w.heap.size w wl)) (fun i _ => (intOf i - 2).toNat)
      case atStart => exact ⟨0, 10, by omega, rfl, by omega, by omega, rfl, HR2, HO2, HW2, HB2⟩
      case round =>
        clear HO2 HW2 HB2 HR2
        obtain ⟨n, i, hn, hin, hi10, hi2, rfl, HR, HO, HW, HB⟩ := hrel
        by_cases hli : 3 ≤ i
        · have hd : decide ((3 : Int) ≤ (i : Int)) = true := by simp; omega
          have HLR : Hid ((rOut w0 n).length = 11) := by show _ = _; rw [length_rOut]; exact HLW.out
          obtain ⟨f, hf⟩ := some_at (k := i) HLR.out.symm (by omega)
          have c1 := HR.out.cell hf
          have HF := hid hf
          have HR0 : Hid (IRow wr gr 11 capr (rIn (rOut w0 n) i 0)) := HR
          clear hf HR
          go_wp2
          clear c1 hd
          go_loopw [11] (fun i' wl => ∃ k : Nat, k ≤ 4 ∧ i' = .int .i64 k ∧ Hid (IRow wl gr 11 capr (rIn (rOut w0 n) i k)) ∧ Hid (IRow wl gb 4 cb (byL 3)) ∧ Hid (IRow wl gw 11 capw w0) ∧ Hid (Below w.heap.size w wl)) (fun i _ => 4 - (intOf i).toNat)
          case atStart => exact ⟨0, by omega, rfl, HR0, HO, HW, HB⟩
          case round =>
            clear HR0 HO HW HB
            obtain ⟨k, hk, rfl, HR, HO, HW, HB⟩ := hrel
            by_cases hlk : k < 4
            · obtain ⟨x, hx⟩ := some_at (xs := byL 3) (n := 4) (k := k) (by rw [length_byL (by omega) (by omega)]) hlk
              obtain ⟨u, hu⟩ := some_at (xs := rIn (rOut w0 n) i k) (n := 11) (k := i - 3 + k) (by rw [length_rIn, HLR.out]) (by omega)
              have R1 := HR.out.set (i - 3 + k) (bits .xor .i64 u (gfMul x f))
              have e1 : (rIn (rOut w0 n) i k).set (i - 3 + k) (bits .xor .i64 u (gfMul x f)) = rIn (rOut w0 n) i (k + 1) := by
                simp only [rIn, getD_of hx, getD_of hu, getD_of HF.out]
              rw [e1] at R1
              have c1 := HR.out.cell hu
              have c2 := HO.out.cell hx
              have f1 := HR.out.frozen (i - 3 + k)
              have HR1 := hid R1.1
              have HO1 := hid (HO.out.keeps R1.2 (by omega))
              have HW1 := hid (HW.out.keeps R1.2 (by omega))
              have HB1 := hid (HB.out.setCell (p := ⟨gr, i - 3 + k, none⟩) (by show w.heap.size ≤ gr; omega) (.int .i64 (bits .xor .i64 u (gfMul x f))))
              have hk1 : (i : Int) - 3 + (k : Int) < 11 := by omega
              have hk2 : 0 ≤ (i : Int) - 3 + (k : Int) := by omega
              have hk3 : (k : Int) < 4 := by omega
              clear hx hu R1 HR HO HW HB e1
              go_wp2
              have s3 : ((i : Int) - 3 + (k : Int)).toNat = i - 3 + k := by omega
              refine wp_region_still_tail 14 (by kernel_rfl) (by kernel_rfl) ?_
              simp only [List.take_succ_cons, List.take_zero, List.drop_succ_cons, List.drop_zero]
              repeat (first | still_step | still_call ((specGfMul_any _ _ _).mono fun e w' h => ⟨h.1, h.2.symm⟩))
              refine wpStill_nil ?_
              go_wp2
              clear s3
              go_roundw
              case rel => exact ⟨k + 1, by omega, by go_num, HR1, HO1, HW1, HB1.out.drew⟩
              case measure => simp [intOf]; omega
            · have hk4 : k = 4 := by omega
              subst hk4
              have hro : rIn (rOut w0 n) i 4 = rOut w0 (n + 1) := by
                rw [rOut]; congr 1; have := hin.out; omega
              rw [hro] at HR
              clear hro
              go_wp2
              go_roundw
              case rel => exact ⟨n + 1, i - 1, by have := hin.out; omega, by have := hin.out; show _ = _; omega, by omega, by omega, by go_num, HR, HO, HW, HB⟩
              case measure => simp [intOf]; omega
        · have hn8 : n = 8 := by have := hin.out; omega
          subst hn8
          have hd : decide ((3 : Int) ≤ (i : Int)) = false := by simp; omega
          go_wp2
          clear hd
          have HM8 := hid (show (11 : Nat) = (rOut w0 8).length by rw [length_rOut, HLW.out])
          have HW3 : Hid (IRow wr gw 11 capw ((rOut w0 8).take 0 ++ w0.drop 0)) := by show IRow _ _ _ _ _; simpa using HW.out
          clear HW
          have hdrop : w0.drop 3 = xs := by rw [← HW0.out]; rfl
          have he : encS xs = (rOut w0 8).take 3 ++ w0.drop 3 := by rw [hdrop, encS_eq, HW0.out]
          have HE := hid he
          clear he hdrop
          generalize rOut w0 8 = M at *
          go_loopw [13] (fun i' wl => ∃ k : Nat, k ≤ 3 ∧ i' = .int .i64 k ∧ Hid (IRow wl gr 11 capr M) ∧ Hid (IRow wl gw 11 capw (M.take k ++ w0.drop k)) ∧ Hid (Below w.heap.size w wl)) (fun i _ => 3 - (intOf i).toNat)
          case atStart => exact ⟨0, by omega, rfl, HR, HW3, HB⟩
          case round =>
            clear HR HW3 HB
            obtain ⟨k, hk, rfl, HR, HW, HB⟩ := hrel
            by_cases hlk : k < 3
            · obtain ⟨x, hx⟩ := some_at (k := k) HM8.out (by omega)
              obtain ⟨z, hz⟩ := over_at (k := k) HM8.out HLW.out.symm (by omega)
              have c1 := HR.out.cell hx
              have c2 := HW.out.cell hz
              have f2 := HW.out.frozen k
              have R1 := HW.out.set k x
              rw [over_set HM8.out HLW.out.symm hx] at R1
              have HW1 := hid R1.1
              have HR1 := hid (HR.out.keeps R1.2 (by omega))
              have HB1 := hid (HB.out.setCell (p := ⟨gw, k, none⟩) hg (.int .i64 x))
              have hk3 : (k : Int) < 11 := by omega
              clear hx hz R1 HR HW HB
              go_wp2
              go_roundw
              case rel => exact ⟨k + 1, by omega, by go_num, HR1, HW1, HB1⟩
              case measure => simp [intOf]; omega
            · have hk3 : k = 3 := by omega
              subst hk3
              go_wp2
              go_ret
              exact ⟨gw, capw, rfl, hg, by rw [HE.out]; exact HW.out, HB.out⟩
end Go.Proofs.Ytgconjollemjiaa
