/- The law 'FnDistance': for every input the program's function and the reference's agree, so the call returns true and leaves its arguments as they were; no condition. -/
import Derived.Test.YtnfkkkjookfdiaaRows
import Derived.Test.YtnfkkkjookfdiaaHead
import Derived.Test.YtnfkkkjookfdiaaDraw
import Derived.Test.YtnfkkkjookfdiaaWordP
import Derived.Test.YtnfkkkjookfdiaaIntS
import Derived.WalkKit
import Derived.ProofKit
import Derived.OpenShut
import Derived.ShutString
import Derived.ChangeOld
import Derived.Below
namespace Go.Proofs.Ytnfkkkjookfdiaa.fnDistance
open Go.ChangeShapes Go.WideShapes Go.ChangeAt Go.RowKit
set_option linter.unusedVariables false

theorem own : ownKnob Try.prog.godebug = none := by kernel_rfl
theorem laidOut : laidOutB Try.prog = true := by kernel_rfl

/-- How many of the first k places differ. -/
def diffN (us bs : List Int) : Nat → Int
  | 0 => 0
  | k + 1 => if (us[k]?.getD 0 != bs[k]?.getD 0) = true then diffN us bs k + 1 else diffN us bs k
theorem diffN_bd (us bs : List Int) (k : Nat) : 0 ≤ diffN us bs k ∧ diffN us bs k ≤ k := by
  induction k with
  | zero => simp [diffN]
  | succ k ih => unfold diffN; split <;> omega
theorem diffN_yes {us bs : List Int} {k : Nat} {x y : Int} (hx : us[k]? = some x) (hy : bs[k]? = some y) (h : (x != y) = true) : diffN us bs (k + 1) = diffN us bs k + 1 := by
  rw [diffN, hx, hy]; simp only [Option.getD_some]; rw [if_pos h]
theorem diffN_no {us bs : List Int} {k : Nat} {x y : Int} (hx : us[k]? = some x) (hy : bs[k]? = some y) (h : (x != y) = false) : diffN us bs (k + 1) = diffN us bs k := by
  rw [diffN, hx, hy]; simp only [Option.getD_some]; rw [if_neg (by simp [h])]
def nzB (bs : List (BitVec 4)) : Nat → Int
  | 0 => 0
  | k + 1 => if bs[k]?.getD 0#4 != 0#4 then nzB bs k + 1 else nzB bs k
theorem diff_xs2 (ys zs : List (BitVec 4)) (h : ys.length = zs.length) (k : Nat) : diffN (ys.map tI) ((xs2 ys zs).map tI) k = nzB zs k := by
  induction k with
  | zero => rfl
  | succ k ih =>
    unfold diffN nzB
    rw [getD_map_tI, getD_map_tI, ih, xs2_at ys zs k h]
    have e : (tI (ys[k]?.getD 0#4) != tI (ys[k]?.getD 0#4 ^^^ zs[k]?.getD 0#4)) = (zs[k]?.getD 0#4 != 0#4) := by
      generalize ys[k]?.getD 0#4 = a
      generalize zs[k]?.getD 0#4 = b
      revert a b
      have h : ∀ i j : Fin 16, (tI (BitVec.ofFin i) != tI (BitVec.ofFin i ^^^ BitVec.ofFin j)) = (BitVec.ofFin j != 0#4) := by decide +kernel
      exact fun a b => h a.toFin b.toFin
    rw [e]
theorem nz_one : ∀ i : Fin 8, ∀ b : Fin 16, b ≠ 0 → nzB (encB (one i.val (BitVec.ofFin b))) 11 = 4 := by decide +kernel
theorem set_one (ys : List (BitVec 4)) (h8 : ys.length = 8) (k : Nat) (hk : k < 8) (c : BitVec 4) : ys.set k (ys[k]?.getD 0#4 ^^^ c) = xs2 ys (one k c) := by
  apply List.ext_getElem?
  intro j
  have hl : (one k c).length = 8 := by simp [one]
  unfold xs2
  rw [List.getElem?_zipWith, List.getElem?_set]
  by_cases hj : j < 8
  · rw [List.getElem?_eq_getElem (show j < ys.length by omega)]
    by_cases he : k = j
    · subst he
      have : (one k c)[k]? = some c := by unfold one; rw [List.getElem?_set_self (by simpa using hk)]
      simp [this, h8, hk]
    · have : (one k c)[j]? = some 0#4 := by unfold one; rw [List.getElem?_set_ne he, List.getElem?_replicate]; simp [hj]
      simp [this, he]
  · have h2 : (one k c)[j]? = none := List.getElem?_eq_none (by omega)
    have h1 : ys[j]? = none := List.getElem?_eq_none (by omega)
    rw [h1, h2]
    simp; omega
/-- Codewords of data that differ at one place differ at four. -/
theorem four (ys : List (BitVec 4)) (h8 : ys.length = 8) (k : Nat) (hk : k < 8) (c : BitVec 4) (hc : c ≠ 0#4) :
    diffN ((encB ys).map tI) ((encB (ys.set k (ys[k]?.getD 0#4 ^^^ c))).map tI) 11 = 4 := by
  have hl : ys.length = (one k c).length := by simp [one, h8]
  rw [set_one ys h8 k hk c, encB_add ys _ hl, diff_xs2 _ _ (by rw [length_encB, length_encB, hl])]
  exact nz_one ⟨k, hk⟩ c.toFin (fun h => hc (by have := congrArg BitVec.ofFin h; simpa using this))
theorem data_tI {xs : List Int} (h : ∀ x ∈ xs, 0 ≤ x ∧ x < 16) : ∃ ys : List (BitVec 4), xs = ys.map tI :=
  list_tI xs (by rw [List.all_eq_true]; intro x hx; have := h x hx; exact inB_iff.2 (by omega))
theorem encR_tI (ys : List (BitVec 4)) (h8 : ys.length = 8) : encR (ys.map tI) = (encB ys).map tI := by
  rw [encR, if_pos (show symOk (ys.map tI) 8 = true from symOk_tI ys 8 h8), encI_tI]
theorem tmod_of {x m : Int} (h0 : 0 ≤ x) (hm : 0 < m) : ∃ k : Nat, x.tmod m = (k : Int) ∧ (k : Int) < m := by
  refine ⟨(x % m).toNat, ?_, ?_⟩
  · rw [Int.tmod_eq_emod_of_nonneg h0]; have := Int.emod_nonneg x (show m ≠ 0 by omega); omega
  · have := Int.emod_nonneg x (show m ≠ 0 by omega); have := Int.emod_lt_of_pos x hm; omega

set_option maxRecDepth 100000 in
theorem walk (w : World) (a0 : Option Addr) (len0 cap0 : Nat) (w0 : BytesR w a0 len0) (m0 : len0 ≤ maxLen) :
    Calls Try.prog 4 #[.slice a0 len0 cap0] w fun e w' => e = .returned (.bool true) ∧ Below w.heap.size w w' := by
  by_cases hlen : 1048576 < len0
  · have hd : decide (1048576 < (len0 : Int)) = true := by simp; omega
    go_enter Try.func4, Try.ntmps4
    go_wp2_with fail
    refine (big_any _ _ _ _ m0).mono ?_
    rintro e w1 ⟨rfl, rfl⟩
    go_wp2_with fail
    go_ret
    exact ⟨rfl, Below.refl _ _⟩
  have hd : decide (1048576 < (len0 : Int)) = false := by simp; omega
  have HW := hid w0
  clear w0
  go_enter Try.func4, Try.ntmps4
  go_wp2_with fail
  refine (big_any _ _ _ _ m0).mono ?_
  rintro e w1 ⟨rfl, rfl⟩
  go_wp2_with fail
  refine (DrawData_any _ _ _ _ HW.out (by omega)).mono ?_
  rintro e w1 ⟨g1, c1, ds, rfl, hg1, R1, hds, B1⟩
  have W1 := HW.out.old B1
  have HW1 := hid W1
  have HDS := hid hds
  have HR1 := hid R1
  have HB1 := hid B1
  have HB1s := hid B1.size
  clear hds hd W1 R1 B1
  go_wp2_with fail
  refine (DrawPlaces_any _ _ _ _ HW1.out (by omega)).mono ?_
  rintro e w2 ⟨g2, c2, ps, rfl, hg2, R2, hps, B2⟩
  have R1 := HR1.out.old B2
  have b2 := below_step HB1.out B2 (Nat.le_refl _)
  have B3 := (Below.refl w2.heap.size w2).alloc (Nat.le_refl _) (.cells #[] 3)
  have HR1 := hid (R1.old B3)
  have HR2 := hid (R2.old B3)
  have HB := hid (below_step b2 B3 (Nat.le_refl _))
  have hlt1 := R1.lt
  have hlt2 := R2.lt
  have HL2 := hid R2.length
  have HL1 := hid R1.length
  have HPS := hid hps
  clear hps B2 B3 b2 R2 R1 HW HW1 HB1
  have HE := hid (IRow.empty w2)
  go_wp2_with (at_builtin; refine wpList_append_ints rfl _ _ rfl _ w2.heap.size w2.heap.size 0 0 [] HE.out (Nat.le_refl _) rfl _ 8 _ ds HR1.out.reads HL1.out.symm rfl 8 rfl (by omega) (by simp) ?_; intro g3 c3 w3 hg3 R3 B3)
  have HR1 := hid (HR1.out.keeps (keeps_from B3) (by omega))
  have HR2 := hid (HR2.out.keeps (keeps_from B3) (by omega))
  have hs3 : w2.heap.size ≤ w3.heap.size := by have := B3.size; simp at this; omega
  have HB := hid (HB.out.trans (B3.mono (by have := HB.out.size; omega)))
  have HR3 := hid R3
  clear R3 B3 HE
  obtain ⟨p0, hp0⟩ : ∃ x, ps[0]? = some x := ⟨ps[0]'(by rw [HL2.out]; omega), List.getElem?_eq_getElem _⟩
  obtain ⟨p1, hp1⟩ : ∃ x, ps[1]? = some x := ⟨ps[1]'(by rw [HL2.out]; omega), List.getElem?_eq_getElem _⟩
  obtain ⟨a0, a1⟩ := HPS.out p0 (List.mem_of_getElem? hp0)
  obtain ⟨d0, d1⟩ := HPS.out p1 (List.mem_of_getElem? hp1)
  obtain ⟨k, ek, hk⟩ := tmod_of (x := p0) (m := 8) a0 (by omega)
  obtain ⟨c, ec, hc⟩ := tmod_of (x := p1) (m := 15) d0 (by omega)
  have hk8 : k < 8 := by omega
  obtain ⟨x, hx⟩ := some_at HL1.out.symm hk8
  have k0 := HR2.out.cell hp0
  have k1 := HR2.out.cell hp1
  have k2 := HR3.out.cell (i := k) (x := x) (by simpa using hx)
  have f2 := HR3.out.frozen k
  obtain ⟨ys, hys⟩ := data_tI HDS.out
  have hyl : ys.length = 8 := by have := HL1.out; rw [hys] at this; simpa using this
  have hxv : x = tI (ys[k]?.getD 0#4) := by rw [← getD_map_tI, ← hys, hx]; rfl
  have hcv : (1 : Int) + (c : Int) = tI (BitVec.ofNat 4 (1 + c)) := by
    unfold tI; simp; omega
  have HC0 : Hid (BitVec.ofNat 4 (1 + c) ≠ 0#4) := by
    intro h; have := congrArg BitVec.toNat h; simp at this; omega
  have HXV := hid hxv
  have HCV := hid hcv
  have HYS := hid hys
  have HYL := hid hyl
  have ew : IntKind.i64.wrap (1 + (c : Int)) = 1 + (c : Int) := IntWalk.i64_in _ (by omega)
  clear hx hp0 hp1 a0 a1 d0 d1 hys hyl hxv hcv
  have hki : (0 : Int) ≤ (k : Int) := by omega
  have HS := HR3.out.set k (bits .xor .i64 x (1 + (c : Int)))
  have R3' := HS.1
  have R1' := HR1.out.keeps HS.2 (by omega)
  have B3' := HB.out.trans (HS.2.below (B := w.heap.size) (by have := HB.out.size; omega) (fun i hi e => by have := HB1s.out; omega))
  have HR3' := hid R3'
  have HR1' := hid R1'
  have HB' := hid B3'
  clear HS R3' R1' B3' HR1 HR2
  go_wp2
  refine wp_region_still_tail 19 (by kernel_rfl) (by kernel_rfl) ?_
  simp only [List.take_succ_cons, List.take_zero, List.drop_succ_cons, List.drop_zero]
  repeat (first | still_step)
  refine wpStill_nil ?_
  go_wp2_with fail
  clear k0 k1 k2 f2 ew ek ec
  generalize hw4 : (w3.setCell ⟨g3, k, none⟩ (.int .i64 (bits .xor .i64 x (1 + (c : Int))))).drew = w4
  have R3 : IRow w4 g3 8 c3 (([] ++ ds).set k (bits .xor .i64 x (1 + (c : Int)))) := by rw [← hw4]; exact HR3'.out
  have R1 : IRow w4 g1 8 c1 ds := by rw [← hw4]; exact HR1'.out
  have B4 : Below w.heap.size w w4 := by rw [← hw4]; exact HB'.out.drew
  clear hw4 HR3' HR1' HB' HR3 HB
  have e3 : ([] ++ ds).set k (bits .xor .i64 x (1 + (c : Int))) = (ys.set k (ys[k]?.getD 0#4 ^^^ BitVec.ofNat 4 (1 + c))).map tI := by
    rw [HXV.out, HCV.out, tI_xor, List.nil_append, HYS.out, List.map_set]
  have hfour := four ys HYL.out k hk8 _ HC0.out
  rw [HYS.out] at R1
  rw [e3] at R3
  generalize hzs : ys.set k (ys[k]?.getD 0#4 ^^^ BitVec.ofNat 4 (1 + c)) = zs at *
  have hzl : zs.length = 8 := by rw [← hzs, List.length_set]; exact HYL.out
  have E1 := hid (encR_tI ys HYL.out)
  have E2 := hid (encR_tI zs hzl)
  have HZL := hid hzl
  have H4 := hid hfour
  clear hzs hzl hfour e3 HXV HCV HC0
  refine (implEncodeSymbols_any _ _ _ _ _ R1.reads (by simp [HYL.out]) (by simp [HYL.out])).mono ?_
  rintro e w5 ⟨t1, n1, d1, rfl, A1, B5⟩
  rw [E1.out] at A1
  have R3 := R3.old B5
  have b5 := below_step B4 B5 (Nat.le_refl _)
  have q1 : n1 = 11 := by rw [A1.length]; simp [length_encB, HYL.out]
  subst q1
  clear R1 B4 B5
  go_wp2_with fail
  refine (implEncodeSymbols_any _ _ _ _ _ R3.reads (by simp [HZL.out]) (by simp [HZL.out])).mono ?_
  rintro e w6 ⟨t2, n2, d2, rfl, A2, B6⟩
  rw [E2.out] at A2
  have A1 := A1.old B6
  have b6 := hid (below_step b5 B6 (Nat.le_refl _))
  have q2 : n2 = 11 := by rw [A2.length]; simp [length_encB, HZL.out]
  subst q2
  obtain ⟨p1, rfl, _, P1⟩ := A1.row (by decide)
  obtain ⟨p2, rfl, _, P2⟩ := A2.row (by decide)
  have HP1 := hid P1
  have HP2 := hid P2
  have l1 : Hid (11 = ((encB ys).map tI).length) := by rw [List.length_map, length_encB, HYL.out]; exact rfl
  have l2 : Hid (11 = ((encB zs).map tI).length) := by rw [List.length_map, length_encB, HZL.out]; exact rfl
  generalize (encB ys).map tI = L1 at *
  generalize (encB zs).map tI = L2 at *
  clear A1 A2 R3 B6 b5 P1 P2 E1 E2
  go_wp2_with fail
  go_loopw [8, 9] (fun n i wr => ∃ k q : Nat, k ≤ 11 ∧ i = .int .i64 k ∧ n = .int .i64 (diffN L1 L2 k) ∧ wr = w6.drewN q) (fun _ i _ => 11 - (intOf i).toNat)
  case atStart => exact ⟨0, 0, by omega, rfl, rfl, rfl⟩
  case round =>
    obtain ⟨k, q, hk, rfl, rfl, rfl⟩ := hrel
    by_cases hlk : k < 11
    · obtain ⟨y, hy⟩ := some_at l1.out hlk
      obtain ⟨z, hz⟩ := some_at l2.out hlk
      have k1 := HP1.out.cell hy
      have k2 := HP2.out.cell hz
      have hki : (k : Int) < 11 := by omega
      have hbd := diffN_bd L1 L2 k
      cases hb : (y != z) with
      | true =>
        have HD := hid (diffN_yes hy hz hb)
        clear hy hz
        go_wp2
        go_quiet (fail)
        go_wp2
        go_roundw
        case rel => exact ⟨k + 1, _, by omega, by go_num, by rw [HD.out], rfl⟩
        case measure => simp [intOf]; omega
      | false =>
        have HD := hid (diffN_no hy hz hb)
        clear hy hz
        go_wp2
        go_quiet (fail)
        go_wp2
        go_roundw
        case rel => exact ⟨k + 1, _, by omega, by go_num, by rw [HD.out], rfl⟩
        case measure => simp [intOf]; omega
    · have h11 : k = 11 := by omega
      subst h11
      rw [H4.out]
      go_wp2_with fail
      go_ret
      exact ⟨rfl, below_drewN b6.out q⟩

set_option maxRecDepth 100000 in
theorem lifted (os : Os) (started : os.Started) (H : Type) (enc : TypeId × Value → H) :
    ReturnsInHanded {} Try.checked os 4 .any (Rows.fnDistanceSpec.pre6 enc Try.prog Try.f4 Rows.fnDistanceRow.domain false) (Rows.fnDistanceSpec.post enc Try.prog Try.f4 false true false false) := by
  refine returnsInHanded_of_change (C := Try.checked) own started (by kernel_rfl) Try.func4
    (ChangeSpec.witness6 (enc := enc) (C := Try.checked) false ⟨#[], #[.slice none 0 0], []⟩ 8 (by kernel_rfl) (by kernel_rfl) (by kernel_rfl) (by kernel_rfl)) ?_
  intro W base args ds gs before hval0 hW hcnd _
  have hval : ∀ (j : Nat) t v, Try.f4.params[j]? = some t → args[j]? = some v → Value.okWide Try.prog W .any base t v := hval0
  have hW' := hW
  obtain ⟨p, q, hA0, hV, rfl, hfz, hnd⟩ := hW
  have hA : DataW.TrodAll enc Try.prog W 0 (fun _ => true) true Try.f4.params.toList args.toList ds p := hA0
  rw [Try.params4] at hA hval
  obtain ⟨v0, vs0, d0, ds0, p0, q0, hargs, rfl, rfl, h0, r0⟩ := trodAll_cons hA
  obtain ⟨rfl, rfl, rfl⟩ := trodAll_nil r0
  obtain rfl : args = #[v0] := by cases args; simp_all
  obtain ⟨rfl, rfl⟩ := trodVars_none hV
  obtain ⟨a0, len0, cap0, rfl⟩ := okWide_slice Try.underlying27 (hval 0 27 v0 rfl rfl)
  have k0 := h0
  have lt0 : ∀ x ∈ p0, x.block < W.heap.size := by obtain ⟨m, hm⟩ := k0; exact DataW.trod_lt m _ _ _ hm
  obtain ⟨w0, m0⟩ : BytesR W a0 len0 ∧ len0 ≤ maxLen := by
    obtain ⟨fuel, hf⟩ := h0
    rcases open_ints Try.underlying27 Try.underlying5 (by kernel_rfl) hf with ⟨hcs, _⟩ | ⟨x, l, c, zs, hcs, _, hl, hm, hz, _, hcell, hwz⟩
    · simp [Value.cells] at hcs
      obtain ⟨rfl, rfl, rfl⟩ := hcs
      exact ⟨fun i hi => absurd hi (Nat.not_lt_zero _), Nat.zero_le _⟩
    · simp [Value.cells] at hcs
      obtain ⟨rfl, rfl, rfl⟩ := hcs
      exact ⟨BytesR.of_cells hl (by simpa using hz) hcell hwz, Nat.le_trans hl hm⟩
  clear hA0 hval0
  refine (walk W a0 len0 cap0 w0 m0).mono fun e W' ⟨he, bel⟩ => ?_
  subst he
  exact ⟨_, rfl, _, _, _, [], _, [], hW', trodAll_mk1 (shut_bool Try.underlying4 _), (trodAll_cons_mk (Below.trod laidOut (by kernel_rfl) (of_decide_eq_true (by kernel_rfl)) k0 bel lt0) trodAll_mk0), rfl, bel.frame _, fun h => by cases h⟩

theorem own_facts : joinedFacts Try.prog 4 Try.f4 Rows.fnDistanceSpec Rows.fnDistanceRow = true :=
  facts_of 4 Try.f4 Rows.fnDistanceSpec Rows.fnDistanceRow (by as_aux_lemma => kernel_rfl) (by as_aux_lemma => kernel_rfl) (by as_aux_lemma => kernel_rfl) rfl rfl
    (by as_aux_lemma => kernel_rfl) (by as_aux_lemma => kernel_rfl) (by as_aux_lemma => kernel_rfl) (by as_aux_lemma => kernel_rfl)
    (by as_aux_lemma => kernel_rfl) (by as_aux_lemma => kernel_rfl) (by as_aux_lemma => kernel_rfl) (by as_aux_lemma => kernel_rfl) (by as_aux_lemma => kernel_rfl)
    (by as_aux_lemma => kernel_rfl) (by as_aux_lemma => kernel_rfl) (by as_aux_lemma => kernel_rfl) (by as_aux_lemma => kernel_rfl)
    rfl rfl rfl rfl (by as_aux_lemma => kernel_rfl) (by as_aux_lemma => kernel_rfl) (by as_aux_lemma => kernel_rfl) (by as_aux_lemma => kernel_rfl)
theorem over : Rows.fnDistanceRow.holds Try.pinned (OpenSpec.ofChange Rows.fnDistanceSpec) :=
  OpenClaim.holds_of_wide 4 Try.f4 rfl rfl rfl rfl rfl rfl rfl ⟨rfl, rfl, rfl, rfl, rfl⟩ rfl rfl rfl rfl rfl (by as_aux_lemma => kernel_rfl) Try.func4 own_facts
    (of_decide_eq_true (by as_aux_lemma => kernel_rfl)) (by unfold Func.isWrapper; first | (rw [if_pos (by decide +kernel)]; kernel_rfl) | (rw [if_neg (by decide +kernel)]; exact ⟨rfl, rfl⟩))
    (fun os started H enc _ => lifted os started H enc)

theorem proved : Rows.FnDistanceSaid := over
#print axioms proved
end Go.Proofs.Ytnfkkkjookfdiaa.fnDistance
