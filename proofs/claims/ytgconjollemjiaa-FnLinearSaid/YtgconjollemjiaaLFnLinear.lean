/- The law 'FnLinear': for every input the program's function and the reference's agree, so the call returns true and leaves its arguments as they were; no condition. -/
import Derived.Test.YtgconjollemjiaaRows
import Derived.Test.YtgconjollemjiaaHead
import Derived.Test.YtgconjollemjiaaDraw
import Derived.Test.YtgconjollemjiaaWordP
import Derived.Test.YtgconjollemjiaaIntS
import Derived.WalkKit
import Derived.ProofKit
import Derived.OpenShut
import Derived.ShutString
import Derived.ChangeOld
import Derived.Below
namespace Go.Proofs.Ytgconjollemjiaa.fnLinear
open Go.ChangeShapes Go.WideShapes Go.ChangeAt Go.RowKit
set_option linter.unusedVariables false

theorem own : ownKnob Try.prog.godebug = none := by kernel_rfl
theorem laidOut : laidOutB Try.prog = true := by kernel_rfl

/-- The sum of the first k places. -/
def sumL (ds es : List Int) (k : Nat) : List Int := (List.range k).map fun i => bits .xor .i64 (ds[i]?.getD 0) (es[i]?.getD 0)
theorem length_sumL (ds es : List Int) (k : Nat) : (sumL ds es k).length = k := by simp [sumL]
theorem sumL_succ {ds es : List Int} {k : Nat} {x y : Int} (hx : ds[k]? = some x) (hy : es[k]? = some y) : sumL ds es (k + 1) = sumL ds es k ++ [bits .xor .i64 x y] := by
  simp [sumL, List.range_succ, hx, hy]
theorem sumL_tI (ys zs : List (BitVec 4)) (n : Nat) (hy : ys.length = n) (hz : zs.length = n) : sumL (ys.map tI) (zs.map tI) n = (xs2 ys zs).map tI := by
  apply List.ext_getElem?
  intro i
  by_cases hi : i < n
  · have h1 : i < (xs2 ys zs).length := by rw [length_xs2 _ _ (by omega)]; omega
    rw [List.getElem?_map, List.getElem?_eq_getElem h1]
    have e := xs2_at ys zs i (by omega)
    rw [List.getElem?_eq_getElem h1] at e
    simp only [Option.getD_some] at e
    rw [e]
    unfold sumL
    rw [List.getElem?_map, List.getElem?_range hi, Option.map_some, getD_map_tI, getD_map_tI, tI_xor]; rfl
  · rw [List.getElem?_eq_none (by rw [length_sumL]; omega), List.getElem?_eq_none (by rw [List.length_map, length_xs2 _ _ (by omega)]; omega)]
theorem data_tI {xs : List Int} (h : ∀ x ∈ xs, 0 ≤ x ∧ x < 16) : ∃ ys : List (BitVec 4), xs = ys.map tI :=
  list_tI xs (by rw [List.all_eq_true]; intro x hx; have := h x hx; exact inB_iff.2 (by omega))
theorem encR_tI (ys : List (BitVec 4)) (h8 : ys.length = 8) : encR (ys.map tI) = (encB ys).map tI := by
  rw [encR, if_pos (show symOk (ys.map tI) 8 = true from symOk_tI ys 8 h8), encI_tI]

set_option maxRecDepth 100000 in
theorem walk (w : World) (a0 : Option Addr) (len0 cap0 : Nat) (w0 : BytesR w a0 len0) (m0 : len0 ≤ maxLen) :
    Calls Try.prog 16 #[.slice a0 len0 cap0] w fun e w' => e = .returned (.bool true) ∧ Below w.heap.size w w' := by
  by_cases hlen : 1048576 < len0
  · have hd : decide (1048576 < (len0 : Int)) = true := by simp; omega
    go_enter Try.func16, Try.ntmps16
    go_wp2_with fail
    refine (big_any _ _ _ _ m0).mono ?_
    rintro e w1 ⟨rfl, rfl⟩
    go_wp2_with fail
    go_ret
    exact ⟨rfl, Below.refl _ _⟩
  have hd : decide (1048576 < (len0 : Int)) = false := by simp; omega
  have HW := hid w0
  clear w0
  go_enter Try.func16, Try.ntmps16
  go_wp2_with fail
  refine (big_any _ _ _ _ m0).mono ?_
  rintro e w1 ⟨rfl, rfl⟩
  go_wp2_with fail
  refine (DrawData_any _ _ _ _ HW.out (by omega)).mono ?_
  rintro e w1 ⟨g1, c1, ds, rfl, hg1, R1, hds, B1⟩
  have W1 := HW.out.old B1
  have HW1 := hid W1
  have HDS := hid hds
  clear hds hd W1
  go_wp2_with (at_builtin; refine wpList_append_code rfl _ _ rfl w1 a0 len0 cap0 HW1.out rfl rfl (by omega) ?_; intro ga ca w2 hga hb hbel)
  refine (DrawData_any _ _ _ _ hb (by omega)).mono ?_
  rintro e w3 ⟨g2, c2, es, rfl, hg2, R2, hes, B3⟩
  have hlt1 := R1.lt
  have R1 := (R1.old hbel).old B3
  have hs2 := hbel.size
  have hs3 := B3.size
  have hg13 : g1 < w3.heap.size := by omega
  have hw3 : w.heap.size ≤ w3.heap.size := by have := B1.size; omega
  have b3 := below_step (below_step B1 hbel (Nat.le_refl _)) B3 (Nat.le_refl _)
  have hlt2 := R2.lt
  obtain ⟨ys, hys⟩ := data_tI HDS.out
  obtain ⟨zs, hzs⟩ := data_tI hes
  have l1 := R1.length
  have l2 := R2.length
  have HL1 := hid l1
  have HL2 := hid l2
  have HYS := hid hys
  have HZS := hid hzs
  have HE := hid (IRow.empty w3)
  have b4 := (Below.refl w3.heap.size w3).alloc (Nat.le_refl _) (.cells #[] 3)
  have HR1 := hid (R1.old b4)
  have HR2 := hid (R2.old b4)
  have HB := hid (below_step b3 b4 (Nat.le_refl _))
  clear hes hbel B3 B1 R1 R2 l1 l2 hys hzs b4 HDS HW HW1 hb
  go_wp2_with fail
  go_loopw [5, 6] (fun v i wr => ∃ k g cap : Nat, k ≤ 8 ∧ i = .int .i64 k ∧ v = .slice (some ⟨g, 0, none⟩) k cap ∧ w3.heap.size ≤ g ∧ Hid (IRow wr g k cap (sumL ds es k)) ∧ Hid (IRow wr g1 8 c1 ds) ∧ Hid (IRow wr g2 8 c2 es) ∧ Hid (Below w.heap.size w wr) ∧ w3.heap.size ≤ wr.heap.size) (fun _ i _ => 8 - (intOf i).toNat)
  case atStart => exact ⟨0, w3.heap.size, 0, by omega, rfl, rfl, Nat.le_refl _, HE, HR1, HR2, HB, by simp⟩
  case round =>
    clear HE HR1 HR2 HB
    obtain ⟨k, g, cap, hk, rfl, rfl, hg, HO, HR1, HR2, HB, hsz⟩ := hrel
    by_cases hlk : k < 8
    · obtain ⟨x, hx⟩ := some_at HL1.out.symm hlk
      obtain ⟨y, hy⟩ := some_at HL2.out.symm hlk
      have k1 := HR1.out.cell hx
      have k2 := HR2.out.cell hy
      have HS := hid (sumL_succ hx hy)
      have hki : (k : Int) < 8 := by omega
      clear hx hy
      go_wp2
      go_region_law (refine step_append_int rfl _ _ rfl wr.drew w3.heap.size k _ (sumL ds es k) ((HO.out.drewN 1).rebase hg) rfl _ rfl (by simp; omega) (by omega) ?_; intro g' cap' w4 hg' hrow hbel)
      all_goals
        have HO4 := hid hrow
        rw [← HS.out] at HO4
        have HR14 := hid ((HR1.out.drewN 1).keeps (keeps_from hbel) (fun h => absurd hg13 (Nat.not_lt.2 h)))
        have HR24 := hid ((HR2.out.drewN 1).keeps (keeps_from hbel) (fun h => absurd hlt2 (Nat.not_lt.2 h)))
        have HB4 := hid (HB.out.drew.trans (hbel.mono (by have := HB.out.size; have := b3.size; omega)))
        have hs4 : wr.heap.size ≤ w4.heap.size := hbel.size
        clear hrow hbel HO HR1 HR2 HB HS k1 k2 hki
        go_wp2
        go_roundw
        case rel => exact ⟨k + 1, g', cap', by omega, by go_num, rfl, hg', HO4, HR14, HR24, HB4, by omega⟩
        case measure => simp [intOf]; omega
    · have h8 : k = 8 := by omega
      subst h8
      have hyl : ys.length = 8 := by have := HL1.out; rw [HYS.out] at this; simpa using this
      have hzl : zs.length = 8 := by have := HL2.out; rw [HZS.out] at this; simpa using this
      have hsl : (xs2 ys zs).length = 8 := by rw [length_xs2 _ _ (by omega)]; exact hyl
      rw [HYS.out] at HR1
      rw [HZS.out] at HR2
      rw [HYS.out, HZS.out, sumL_tI ys zs 8 hyl hzl] at HO
      have e1 := encR_tI ys hyl
      have e2 := encR_tI zs hzl
      have e3 := encR_tI (xs2 ys zs) hsl
      have E1 := hid e1
      have E2 := hid e2
      have E3 := hid e3
      have HY := hid hyl
      have HZ := hid hzl
      have HSL := hid hsl
      clear e1 e2 e3 HYS HZS hyl hzl hsl
      go_wp2_with fail
      refine (implEncodeSymbols_any _ _ _ _ _ HR1.out.reads (by simp [HY.out]) (by simp [HY.out])).mono ?_
      rintro e w5 ⟨t1, n1, d1, rfl, A1, B5⟩
      rw [E1.out] at A1
      have X2 := HR2.out.old B5
      have X3 := HO.out.old B5
      have b5 := below_step HB.out B5 (Nat.le_refl _)
      have q1 : n1 = 11 := by rw [A1.length]; simp [length_encB, HY.out]
      subst q1
      clear HR1 HR2 HO HB B5
      go_wp2_with fail
      refine (implEncodeSymbols_any _ _ _ _ _ X2.reads (by simp [HZ.out]) (by simp [HZ.out])).mono ?_
      rintro e w6 ⟨t2, n2, d2, rfl, A2, B6⟩
      rw [E2.out] at A2
      have A1 := A1.old B6
      have X3 := X3.old B6
      have b6 := below_step b5 B6 (Nat.le_refl _)
      have q2 : n2 = 11 := by rw [A2.length]; simp [length_encB, HZ.out]
      subst q2
      clear X2 B6 b5
      go_wp2_with fail
      refine (implEncodeSymbols_any _ _ _ _ _ X3.reads (by simp [HSL.out]) (by simp [HSL.out])).mono ?_
      rintro e w7 ⟨t3, n3, d3, rfl, A3, B7⟩
      rw [E3.out] at A3
      have A1 := A1.old B7
      have A2 := A2.old B7
      have b7 := hid (below_step b6 B7 (Nat.le_refl _))
      have q3 : n3 = 11 := by rw [A3.length]; simp [length_encB, HSL.out]
      subst q3
      have hll : (encB ys).length = (encB zs).length := by rw [length_encB, length_encB, HY.out, HZ.out]
      have hadd := encB_add ys zs (by rw [HY.out, HZ.out])
      have h11 : (encB ys).length = 11 := by rw [length_encB, HY.out]
      have hsyn : ∀ j, j < 3 → synN ((encB (xs2 ys zs)).map tI) j 11 = 0 := fun j hj => by rw [synN_tI _ j 11 (Nat.le_refl _) hj, syn_enc _ HSL.out j hj]; rfl
      have hok : symOk ((encB (xs2 ys zs)).map tI) 11 = true := symOk_tI _ 11 (by rw [length_encB, HSL.out])
      obtain ⟨p1, rfl, _, P1⟩ := A1.row (by decide)
      obtain ⟨p2, rfl, _, P2⟩ := A2.row (by decide)
      obtain ⟨p3, rfl, _, P3⟩ := A3.row (by decide)
      have HP1 := hid P1
      have HP2 := hid P2
      have HP3 := hid P3
      have HLL := hid hll
      have HADD := hid hadd
      have H11 := hid h11
      have HSYN := hid hsyn
      have HOK := hid hok
      clear A1 A2 A3 P1 P2 P3 X3 B7 b6 E1 E2 E3 hll hadd h11 hsyn hok
      go_wp2_with fail
      go_loopw [10] (fun i wr => ∃ k q : Nat, k ≤ 11 ∧ i = .int .i64 k ∧ wr = w7.drewN q) (fun i _ => 11 - (intOf i).toNat)
      case atStart => exact ⟨0, 0, by omega, rfl, rfl⟩
      case round =>
        obtain ⟨k, q, hk, rfl, rfl⟩ := hrel
        by_cases hlk : k < 11
        · obtain ⟨y, hy⟩ := some_at (xs := encB ys) (k := k) H11.out.symm hlk
          obtain ⟨z, hz⟩ := some_at (xs := encB zs) (k := k) (H11.out.symm.trans HLL.out) hlk
          have hx : (encB (xs2 ys zs))[k]? = some (y ^^^ z) := by
            rw [HADD.out, xs2, List.getElem?_zipWith, hy, hz]
          have k1 : w7.cell? ⟨p1, k, none⟩ = some (.int .i64 (tI y)) := HP1.out.cell (by rw [List.getElem?_map, hy]; rfl)
          have k2 : w7.cell? ⟨p2, k, none⟩ = some (.int .i64 (tI z)) := HP2.out.cell (by rw [List.getElem?_map, hz]; rfl)
          have k3 : w7.cell? ⟨p3, k, none⟩ = some (.int .i64 (tI (y ^^^ z))) := HP3.out.cell (by rw [List.getElem?_map, hx]; rfl)
          have hb : (bits .xor .i64 (tI y) (tI z) != tI (y ^^^ z)) = false := by rw [tI_xor]; simp
          have hki : (k : Int) < 11 := by omega
          clear hy hz hx
          go_wp2
          go_quiet (fail)
          go_wp2
          go_roundw
          case rel => exact ⟨k + 1, _, by omega, by go_num, rfl⟩
          case measure => simp [intOf]; omega
        · have h11 : k = 11 := by omega
          subst h11
          go_wp2_with fail
          refine (implSyndromes_any _ _ _ _ _ (HP3.out.drewN q).reads (by rw [List.length_map, length_encB, HSL.out]) (by simp [length_encB, HSL.out])).mono ?_
          rintro e w8 ⟨t, n, c, rfl, S, B8⟩
          rw [synR, if_pos HOK.out, syn, HSYN.out 0 (by omega), HSYN.out 1 (by omega), HSYN.out 2 (by omega)] at S
          have b8 := below_step (below_drewN b7.out q) B8 (Nat.le_refl _)
          have hn : n = 3 := S.length
          subst hn
          obtain ⟨ps, rfl, _, PS⟩ := S.row (by decide)
          have s0 := PS.cell (i := 0) rfl
          have s1 := PS.cell (i := 1) rfl
          have s2 := PS.cell (i := 2) rfl
          clear S PS B8
          go_wp2_with fail
          go_ret
          exact ⟨rfl, b8⟩

set_option maxRecDepth 100000 in
theorem lifted (os : Os) (started : os.Started) (H : Type) (enc : TypeId × Value → H) :
    ReturnsInHanded {} Try.checked os 16 .any (Rows.fnLinearSpec.pre6 enc Try.prog Try.f16 Rows.fnLinearRow.domain false) (Rows.fnLinearSpec.post enc Try.prog Try.f16 false true false false) := by
  refine returnsInHanded_of_change (C := Try.checked) own started (by kernel_rfl) Try.func16
    (ChangeSpec.witness6 (enc := enc) (C := Try.checked) false ⟨#[], #[.slice none 0 0], []⟩ 8 (by kernel_rfl) (by kernel_rfl) (by kernel_rfl) (by kernel_rfl)) ?_
  intro W base args ds gs before hval0 hW hcnd _
  have hval : ∀ (j : Nat) t v, Try.f16.params[j]? = some t → args[j]? = some v → Value.okWide Try.prog W .any base t v := hval0
  have hW' := hW
  obtain ⟨p, q, hA0, hV, rfl, hfz, hnd⟩ := hW
  have hA : DataW.TrodAll enc Try.prog W 0 (fun _ => true) true Try.f16.params.toList args.toList ds p := hA0
  rw [Try.params16] at hA hval
  obtain ⟨v0, vs0, d0, ds0, p0, q0, hargs, rfl, rfl, h0, r0⟩ := trodAll_cons hA
  obtain ⟨rfl, rfl, rfl⟩ := trodAll_nil r0
  obtain rfl : args = #[v0] := by cases args; simp_all
  obtain ⟨rfl, rfl⟩ := trodVars_none hV
  obtain ⟨a0, len0, cap0, rfl⟩ := okWide_slice Try.underlying36 (hval 0 36 v0 rfl rfl)
  have k0 := h0
  have lt0 : ∀ x ∈ p0, x.block < W.heap.size := by obtain ⟨m, hm⟩ := k0; exact DataW.trod_lt m _ _ _ hm
  obtain ⟨w0, m0⟩ : BytesR W a0 len0 ∧ len0 ≤ maxLen := by
    obtain ⟨fuel, hf⟩ := h0
    rcases open_ints Try.underlying36 Try.underlying5 (by kernel_rfl) hf with ⟨hcs, _⟩ | ⟨x, l, c, zs, hcs, _, hl, hm, hz, _, hcell, hwz⟩
    · simp [Value.cells] at hcs
      obtain ⟨rfl, rfl, rfl⟩ := hcs
      exact ⟨fun i hi => absurd hi (Nat.not_lt_zero _), Nat.zero_le _⟩
    · simp [Value.cells] at hcs
      obtain ⟨rfl, rfl, rfl⟩ := hcs
      exact ⟨BytesR.of_cells hl (by simpa using hz) hcell hwz, Nat.le_trans hl hm⟩
  clear hA0 hval0
  refine (walk W a0 len0 cap0 w0 m0).mono fun e W' ⟨he, bel⟩ => ?_
  subst he
  exact ⟨_, rfl, _, _, _, [], _, [], hW', trodAll_mk1 (shut_bool Try.underlying4 _), (trodAll_cons_mk (Below.trod laidOut (by kernel_rfl) (of_decide_eq_true (by kernel_rfl)) k0 bel lt0) trodAll_mk0), rfl, bel.frame _, fun h => by cases h⟩

theorem own_facts : joinedFacts Try.prog 16 Try.f16 Rows.fnLinearSpec Rows.fnLinearRow = true :=
  facts_of 16 Try.f16 Rows.fnLinearSpec Rows.fnLinearRow (by as_aux_lemma => kernel_rfl) (by as_aux_lemma => kernel_rfl) (by as_aux_lemma => kernel_rfl) rfl rfl
    (by as_aux_lemma => kernel_rfl) (by as_aux_lemma => kernel_rfl) (by as_aux_lemma => kernel_rfl) (by as_aux_lemma => kernel_rfl)
    (by as_aux_lemma => kernel_rfl) (by as_aux_lemma => kernel_rfl) (by as_aux_lemma => kernel_rfl) (by as_aux_lemma => kernel_rfl) (by as_aux_lemma => kernel_rfl)
    (by as_aux_lemma => kernel_rfl) (by as_aux_lemma => kernel_rfl) (by as_aux_lemma => kernel_rfl) (by as_aux_lemma => kernel_rfl)
    rfl rfl rfl rfl (by as_aux_lemma => kernel_rfl) (by as_aux_lemma => kernel_rfl) (by as_aux_lemma => kernel_rfl) (by as_aux_lemma => kernel_rfl)
theorem over : Rows.fnLinearRow.holds Try.pinned (OpenSpec.ofChange Rows.fnLinearSpec) :=
  OpenClaim.holds_of_wide 16 Try.f16 rfl rfl rfl rfl rfl rfl rfl ⟨rfl, rfl, rfl, rfl, rfl⟩ rfl rfl rfl rfl rfl (by as_aux_lemma => kernel_rfl) Try.func16 own_facts
    (of_decide_eq_true (by as_aux_lemma => kernel_rfl)) (by unfold Func.isWrapper; first | (rw [if_pos (by decide +kernel)]; kernel_rfl) | (rw [if_neg (by decide +kernel)]; exact ⟨rfl, rfl⟩))
    (fun os started H enc _ => lifted os started H enc)

theorem proved : Rows.FnLinearSaid := over
#print axioms proved
end Go.Proofs.Ytgconjollemjiaa.fnLinear
